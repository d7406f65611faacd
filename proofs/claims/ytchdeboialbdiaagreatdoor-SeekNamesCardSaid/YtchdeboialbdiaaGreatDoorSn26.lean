/- Texts joined, one behind the other (SRefH, SRefI). -/
import Derived.Test.YtchdeboialbdiaaGreatDoorSn25
namespace Go.Proofs.YtchdeboialbdiaaGreatDoor
set_option linter.unusedVariables false
set_option linter.unusedSimpArgs false
set_option maxHeartbeats 8000000
set_option maxRecDepth 100000
open Go.RowKit
open Go.Lib hiding intOf
theorem one_plain {V : List Nat} {i c : Nat} (h : V[i]? = some c) (hc : c ≠ 92) : oneP V i = .inr (0,c,i + 1):=by
 unfold oneP
 rw [h]
 exact if_neg hc
theorem one_end {V : List Nat} {i : Nat} (h : V[i]? = some 92) (h1 : V[i + 1]? = none) : oneP V i = .inl (i + 1):=by
 unfold oneP
 rw [h]
 dsimp only
 rw [if_pos rfl,h1]
theorem one_back {V : List Nat} {i v : Nat} (h : V[i]? = some 92) (h1 : V[i + 1]? = some v) : oneP V i = if markN v = true then .inr (0,v,i + 2) else if v = 110 then .inr (0,10,i + 2) else if v = 114 then .inr (0,13,i + 2) else if v = 116 then .inr (0,9,i + 2) else if v = 119 ∨ v = 87 ∨ v = 115 ∨ v = 83 then .inr (v,0,i + 2) else if v = 120 then hexP V (i + 2) else if v = 117 then runeP V (i + 2) else .inl (i + 1):=by
 unfold oneP
 rw [h]
 dsimp only
 rw [if_pos rfl,h1]
theorem oneR6 (w : World) (g1 c1 g2 c2 n : Nat) (V : List Nat) (i : Nat) (hn : V.length = n) (hI : IntsAt w g1 (toZ V ++ [-1])) (hV : OkV V) (hi : i < n) (hnb : n ≤ 67108864) :
  Calls Tryz.prog 55 #[rdV g1 c1 g2 c2 n,.int .i64 (i : Int)] w fun e w' => e = .returned (gotV (oneP V i)) ∧ Below w.heap.size w w':=by
 unfold rdV
 have hst:=RdW.start (w:=w) (rd:=[.slice (some ⟨g1,0,none⟩) (n + 1) c1,.slice (some ⟨g2,0,none⟩) (n + 1) c2]) hI
 obtain ⟨W0,hW0⟩ : ∃ W,W = (w.alloc (.cells #[.slice (some ⟨g1,0,none⟩) (n + 1) c1,.slice (some ⟨g2,0,none⟩) (n + 1) c2] 95)).alloc (.cells #[.int .i64 0,.int .i64 0,.int .i64 0,.int .i64 0] 101):=⟨_,rfl⟩
 have hst2 : RdW w W0 [.slice (some ⟨g1,0,none⟩) (n + 1) c1,.slice (some ⟨g2,0,none⟩) (n + 1) c2] g1 V:=by rw [hW0]; exact hst
 have HW:=Lib.hid hst2
 have HW0:=Lib.hid hW0
 have HN:=Lib.hid hn
 have HV:=Lib.hid hV
 have b0 : W0.cell? ⟨w.heap.size,0,none⟩ = some (.slice (some ⟨g1,0,none⟩) (n + 1) c1):=hst2.box.cell 0
 have b1 : W0.cell? ⟨w.heap.size,1,none⟩ = some (.slice (some ⟨g2,0,none⟩) (n + 1) c2):=hst2.box.cell 1
 have bl:=hst2.box.lt
 have rf0:=hst2.res.frozen 0
 have rf1:=hst2.res.frozen 1
 have rf2:=hst2.res.frozen 2
 have rf3:=hst2.res.frozen 3
 have rc0:=hst2.res.cell 0
 have rc1:=hst2.res.cell 1
 have rc2:=hst2.res.cell 2
 have rc3:=hst2.res.cell 3
 have rl:=hst2.res.lt
 clear hst hst2 hW0 hn hV hI
 go_enter Tryz.func55, Tryz.ntmps55
 go_upto_region 1 with fail
 rw [← HW0.out]
 have hcell0:=HW.out.ints.v (i:=i) (by rw [HN.out]; omega)
 have hi1 : (i : Int) < ((n + 1 : Nat) : Int):=by omega
 have hi2 : (i : Int) < (n : Int) + 1:=by omega
 obtain ⟨c,hc⟩ : ∃ c,V[i]? = some c:=⟨_,List.getElem?_eq_getElem (by rw [HN.out]; exact hi)⟩
 rw [vI_some hc] at hcell0
 have hcb:=HV.out c (List.mem_of_getElem? hc)
 have hcb2 : c < 2000000:=by unfold wrongN at hcb; omega
 clear hcb
 by_cases hc92 : c = 92
 ·subst hc92
  have HC:=Lib.hid hc
  have hcell:=HW.out.ints.v (i:=i + 1) (by rw [HN.out]; omega)
  have hi3 : (i : Int) + 1 < ((n + 1 : Nat) : Int):=by omega
  have hi4 : (i : Int) < (n : Int):=by omega
  have HM:=Lib.hid (fun W => markR6 W (vI V (i + 1)))
  have hzb:=vI_bound HV.out (i + 1)
  obtain ⟨z,hz⟩ : ∃ z,vI V (i + 1) = z:=⟨_,rfl⟩
  rw [hz] at hcell HM hzb
  have HZ:=Lib.hid hz
  clear hc hz
  cases hmk : markZ z with
  | true =>
   obtain ⟨v,rfl⟩ : ∃ v : Nat,z = (v : Int):=⟨z.toNat,by unfold markZ at hmk; rw [decide_eq_true_iff] at hmk; omega⟩
   have HE : Hid (oneP V i = .inr (0,v,i + 2)):=Lib.hid (by rw [one_back HC.out (vI_eq HZ.out),if_pos (by rw [← markZ_N]; exact hmk)])
   rw [hmk] at HM
   clear hmk
   go_wp2_with (go_at_call 80; refine (HM.out _).mono ?_; rintro e w1 ⟨rfl,rfl⟩)
   have hR:=gotEnd HW.out.res (.int .i64 0) (.int .i64 ((v : Int))) (.int .i64 ((i : Int) + 2)) (.int .i64 (-1))
   refine bodyPost_ret (results_cell_row rfl _ _ (w.heap.size + 1) 101 #[.int .i64 0,.int .i64 ((v : Int)),.int .i64 ((i : Int) + 2),.int .i64 (-1)] (0,0) _ rfl hR Tryz.underlying101 rfl (by kernel_rfl)) rfl ?_
   exact ⟨by rw [HE.out]; rfl,gotBelow HW.out.below (Nat.le_succ _) _ _ _ _⟩
  | false =>
   rw [hmk] at HM
   have HMK:=Lib.hid hmk
   clear hmk
   by_cases z110 : z = 110
   ·subst z110
    have hv : V[i + 1]? = some 110:=vI_eq HZ.out
    have HE : Hid (oneP V i = .inr (0,10,i + 2)):=Lib.hid (by rw [one_back HC.out hv]; rfl)
    clear hv
    go_wp2_with (go_at_call 80; refine (HM.out _).mono ?_; rintro e w1 ⟨rfl,rfl⟩)
    have hR:=gotEnd HW.out.res (.int .i64 0) (.int .i64 (10)) (.int .i64 ((i : Int) + 2)) (.int .i64 (-1))
    refine bodyPost_ret (results_cell_row rfl _ _ (w.heap.size + 1) 101 #[.int .i64 0,.int .i64 (10),.int .i64 ((i : Int) + 2),.int .i64 (-1)] (0,0) _ rfl hR Tryz.underlying101 rfl (by kernel_rfl)) rfl ?_
    exact ⟨by rw [HE.out]; rfl,gotBelow HW.out.below (Nat.le_succ _) _ _ _ _⟩
   have q110 : (z == 110) = false:=by rw [beq_eq_false_iff_ne]; exact z110
   by_cases z114 : z = 114
   ·subst z114
    have hv : V[i + 1]? = some 114:=vI_eq HZ.out
    have HE : Hid (oneP V i = .inr (0,13,i + 2)):=Lib.hid (by rw [one_back HC.out hv]; rfl)
    clear hv
    go_wp2_with (go_at_call 80; refine (HM.out _).mono ?_; rintro e w1 ⟨rfl,rfl⟩)
    have hR:=gotEnd HW.out.res (.int .i64 0) (.int .i64 (13)) (.int .i64 ((i : Int) + 2)) (.int .i64 (-1))
    refine bodyPost_ret (results_cell_row rfl _ _ (w.heap.size + 1) 101 #[.int .i64 0,.int .i64 (13),.int .i64 ((i : Int) + 2),.int .i64 (-1)] (0,0) _ rfl hR Tryz.underlying101 rfl (by kernel_rfl)) rfl ?_
    exact ⟨by rw [HE.out]; rfl,gotBelow HW.out.below (Nat.le_succ _) _ _ _ _⟩
   have q114 : (z == 114) = false:=by rw [beq_eq_false_iff_ne]; exact z114
   by_cases z116 : z = 116
   ·subst z116
    have hv : V[i + 1]? = some 116:=vI_eq HZ.out
    have HE : Hid (oneP V i = .inr (0,9,i + 2)):=Lib.hid (by rw [one_back HC.out hv]; rfl)
    clear hv
    go_wp2_with (go_at_call 80; refine (HM.out _).mono ?_; rintro e w1 ⟨rfl,rfl⟩)
    have hR:=gotEnd HW.out.res (.int .i64 0) (.int .i64 (9)) (.int .i64 ((i : Int) + 2)) (.int .i64 (-1))
    refine bodyPost_ret (results_cell_row rfl _ _ (w.heap.size + 1) 101 #[.int .i64 0,.int .i64 (9),.int .i64 ((i : Int) + 2),.int .i64 (-1)] (0,0) _ rfl hR Tryz.underlying101 rfl (by kernel_rfl)) rfl ?_
    exact ⟨by rw [HE.out]; rfl,gotBelow HW.out.below (Nat.le_succ _) _ _ _ _⟩
   have q116 : (z == 116) = false:=by rw [beq_eq_false_iff_ne]; exact z116
   by_cases z119 : z = 119
   ·subst z119
    have hv : V[i + 1]? = some 119:=vI_eq HZ.out
    have HE : Hid (oneP V i = .inr (119,0,i + 2)):=Lib.hid (by rw [one_back HC.out hv]; rfl)
    clear hv
    go_wp2_with (go_at_call 80; refine (HM.out _).mono ?_; rintro e w1 ⟨rfl,rfl⟩)
    have hR:=gotEnd HW.out.res (.int .i64 (119)) (.int .i64 0) (.int .i64 ((i : Int) + 2)) (.int .i64 (-1))
    refine bodyPost_ret (results_cell_row rfl _ _ (w.heap.size + 1) 101 #[.int .i64 (119),.int .i64 0,.int .i64 ((i : Int) + 2),.int .i64 (-1)] (0,0) _ rfl hR Tryz.underlying101 rfl (by kernel_rfl)) rfl ?_
    exact ⟨by rw [HE.out]; rfl,gotBelow HW.out.below (Nat.le_succ _) _ _ _ _⟩
   have q119 : (z == 119) = false:=by rw [beq_eq_false_iff_ne]; exact z119
   by_cases z87 : z = 87
   ·subst z87
    have hv : V[i + 1]? = some 87:=vI_eq HZ.out
    have HE : Hid (oneP V i = .inr (87,0,i + 2)):=Lib.hid (by rw [one_back HC.out hv]; rfl)
    clear hv
    go_wp2_with (go_at_call 80; refine (HM.out _).mono ?_; rintro e w1 ⟨rfl,rfl⟩)
    have hR:=gotEnd HW.out.res (.int .i64 (87)) (.int .i64 0) (.int .i64 ((i : Int) + 2)) (.int .i64 (-1))
    refine bodyPost_ret (results_cell_row rfl _ _ (w.heap.size + 1) 101 #[.int .i64 (87),.int .i64 0,.int .i64 ((i : Int) + 2),.int .i64 (-1)] (0,0) _ rfl hR Tryz.underlying101 rfl (by kernel_rfl)) rfl ?_
    exact ⟨by rw [HE.out]; rfl,gotBelow HW.out.below (Nat.le_succ _) _ _ _ _⟩
   have q87 : (z == 87) = false:=by rw [beq_eq_false_iff_ne]; exact z87
   by_cases z115 : z = 115
   ·subst z115
    have hv : V[i + 1]? = some 115:=vI_eq HZ.out
    have HE : Hid (oneP V i = .inr (115,0,i + 2)):=Lib.hid (by rw [one_back HC.out hv]; rfl)
    clear hv
    go_wp2_with (go_at_call 80; refine (HM.out _).mono ?_; rintro e w1 ⟨rfl,rfl⟩)
    have hR:=gotEnd HW.out.res (.int .i64 (115)) (.int .i64 0) (.int .i64 ((i : Int) + 2)) (.int .i64 (-1))
    refine bodyPost_ret (results_cell_row rfl _ _ (w.heap.size + 1) 101 #[.int .i64 (115),.int .i64 0,.int .i64 ((i : Int) + 2),.int .i64 (-1)] (0,0) _ rfl hR Tryz.underlying101 rfl (by kernel_rfl)) rfl ?_
    exact ⟨by rw [HE.out]; rfl,gotBelow HW.out.below (Nat.le_succ _) _ _ _ _⟩
   have q115 : (z == 115) = false:=by rw [beq_eq_false_iff_ne]; exact z115
   by_cases z83 : z = 83
   ·subst z83
    have hv : V[i + 1]? = some 83:=vI_eq HZ.out
    have HE : Hid (oneP V i = .inr (83,0,i + 2)):=Lib.hid (by rw [one_back HC.out hv]; rfl)
    clear hv
    go_wp2_with (go_at_call 80; refine (HM.out _).mono ?_; rintro e w1 ⟨rfl,rfl⟩)
    have hR:=gotEnd HW.out.res (.int .i64 (83)) (.int .i64 0) (.int .i64 ((i : Int) + 2)) (.int .i64 (-1))
    refine bodyPost_ret (results_cell_row rfl _ _ (w.heap.size + 1) 101 #[.int .i64 (83),.int .i64 0,.int .i64 ((i : Int) + 2),.int .i64 (-1)] (0,0) _ rfl hR Tryz.underlying101 rfl (by kernel_rfl)) rfl ?_
    exact ⟨by rw [HE.out]; rfl,gotBelow HW.out.below (Nat.le_succ _) _ _ _ _⟩
   have q83 : (z == 83) = false:=by rw [beq_eq_false_iff_ne]; exact z83
   by_cases z120 : z = 120
   ·subst z120
    have hv : V[i + 1]? = some 120:=vI_eq HZ.out
    have HE : Hid (oneP V i = hexP V (i + 2)):=Lib.hid (by rw [one_back HC.out hv]; rfl)
    have hin2 : i + 2 ≤ n:=by have:=lt_of_some hv; rw [HN.out] at this; omega
    have hcl:=byteR6 W0 g1 c1 g2 c2 n V (i + 2) HN.out HW.out.ints HV.out hin2 hnb
    rw [show ((i + 2 : Nat) : Int) = (i : Int) + 2 by omega] at hcl
    cases hG : hexP V (i + 2) with
    | inl b =>
     rw [hG] at hcl HE
     have HCL : Hid (Calls Tryz.prog 81 #[.agg #[.slice (some ⟨g1,0,none⟩) (n + 1) c1,.slice (some ⟨g2,0,none⟩) (n + 1) c2],.int .i64 ((i : Int) + 2)] W0 fun e w' => e = .returned (.agg #[.int .i64 0,.int .i64 0,.int .i64 0,.int .i64 (b : Int)]) ∧ Below W0.heap.size W0 w'):=Lib.hid hcl
     clear hcl hv hG
     go_wp2_with (first | (go_at_call 80; refine (HM.out _).mono ?_; rintro e w1 ⟨rfl,rfl⟩) | (go_at_call 81; refine (HCL.out).mono ?_; rintro e w3 ⟨rfl,hb3⟩; have HW3:=Lib.hid (HW.out.next hb3); have k0:=HW3.out.res.frozen 0; have k1:=HW3.out.res.frozen 1; have k2:=HW3.out.res.frozen 2; have k3:=HW3.out.res.frozen 3; have k4:=HW3.out.res.cell 0; have k5:=HW3.out.res.cell 1; have k6:=HW3.out.res.cell 2; have k7:=HW3.out.res.cell 3; have k8:=HW3.out.res.lt; clear hb3))
     have hR:=gotEnd HW3.out.res (.int .i64 0) (.int .i64 0) (.int .i64 0) (.int .i64 ((b : Int)))
     refine bodyPost_ret (results_cell_row rfl _ _ (w.heap.size + 1) 101 #[.int .i64 0,.int .i64 0,.int .i64 0,.int .i64 ((b : Int))] (0,0) _ rfl hR Tryz.underlying101 rfl (by kernel_rfl)) rfl ?_
     exact ⟨by rw [HE.out]; rfl,gotBelow HW3.out.below (Nat.le_succ _) _ _ _ _⟩
    | inr t =>
     obtain ⟨k,v,j⟩:=t
     rw [hG] at hcl HE
     have HCL : Hid (Calls Tryz.prog 81 #[.agg #[.slice (some ⟨g1,0,none⟩) (n + 1) c1,.slice (some ⟨g2,0,none⟩) (n + 1) c2],.int .i64 ((i : Int) + 2)] W0 fun e w' => e = .returned (.agg #[.int .i64 (k : Int),.int .i64 (v : Int),.int .i64 (j : Int),.int .i64 (-1)]) ∧ Below W0.heap.size W0 w'):=Lib.hid hcl
     clear hcl hv hG
     go_wp2_with (first | (go_at_call 80; refine (HM.out _).mono ?_; rintro e w1 ⟨rfl,rfl⟩) | (go_at_call 81; refine (HCL.out).mono ?_; rintro e w3 ⟨rfl,hb3⟩; have HW3:=Lib.hid (HW.out.next hb3); have k0:=HW3.out.res.frozen 0; have k1:=HW3.out.res.frozen 1; have k2:=HW3.out.res.frozen 2; have k3:=HW3.out.res.frozen 3; have k4:=HW3.out.res.cell 0; have k5:=HW3.out.res.cell 1; have k6:=HW3.out.res.cell 2; have k7:=HW3.out.res.cell 3; have k8:=HW3.out.res.lt; clear hb3))
     have hR:=gotEnd HW3.out.res (.int .i64 ((k : Int))) (.int .i64 ((v : Int))) (.int .i64 ((j : Int))) (.int .i64 (-1))
     refine bodyPost_ret (results_cell_row rfl _ _ (w.heap.size + 1) 101 #[.int .i64 ((k : Int)),.int .i64 ((v : Int)),.int .i64 ((j : Int)),.int .i64 (-1)] (0,0) _ rfl hR Tryz.underlying101 rfl (by kernel_rfl)) rfl ?_
     exact ⟨by rw [HE.out]; rfl,gotBelow HW3.out.below (Nat.le_succ _) _ _ _ _⟩
   have q120 : (z == 120) = false:=by rw [beq_eq_false_iff_ne]; exact z120
   by_cases z117 : z = 117
   ·subst z117
    have hv : V[i + 1]? = some 117:=vI_eq HZ.out
    have HE : Hid (oneP V i = runeP V (i + 2)):=Lib.hid (by rw [one_back HC.out hv]; rfl)
    have hin2 : i + 2 ≤ n:=by have:=lt_of_some hv; rw [HN.out] at this; omega
    have hcl:=runeR6 W0 g1 c1 g2 c2 n V (i + 2) HN.out HW.out.ints HV.out hin2 hnb
    rw [show ((i + 2 : Nat) : Int) = (i : Int) + 2 by omega] at hcl
    cases hG : runeP V (i + 2) with
    | inl b =>
     rw [hG] at hcl HE
     have HCL : Hid (Calls Tryz.prog 82 #[.agg #[.slice (some ⟨g1,0,none⟩) (n + 1) c1,.slice (some ⟨g2,0,none⟩) (n + 1) c2],.int .i64 ((i : Int) + 2)] W0 fun e w' => e = .returned (.agg #[.int .i64 0,.int .i64 0,.int .i64 0,.int .i64 (b : Int)]) ∧ Below W0.heap.size W0 w'):=Lib.hid hcl
     clear hcl hv hG
     go_wp2_with (first | (go_at_call 80; refine (HM.out _).mono ?_; rintro e w1 ⟨rfl,rfl⟩) | (go_at_call 82; refine (HCL.out).mono ?_; rintro e w3 ⟨rfl,hb3⟩; have HW3:=Lib.hid (HW.out.next hb3); have k0:=HW3.out.res.frozen 0; have k1:=HW3.out.res.frozen 1; have k2:=HW3.out.res.frozen 2; have k3:=HW3.out.res.frozen 3; have k4:=HW3.out.res.cell 0; have k5:=HW3.out.res.cell 1; have k6:=HW3.out.res.cell 2; have k7:=HW3.out.res.cell 3; have k8:=HW3.out.res.lt; clear hb3))
     have hR:=gotEnd HW3.out.res (.int .i64 0) (.int .i64 0) (.int .i64 0) (.int .i64 ((b : Int)))
     refine bodyPost_ret (results_cell_row rfl _ _ (w.heap.size + 1) 101 #[.int .i64 0,.int .i64 0,.int .i64 0,.int .i64 ((b : Int))] (0,0) _ rfl hR Tryz.underlying101 rfl (by kernel_rfl)) rfl ?_
     exact ⟨by rw [HE.out]; rfl,gotBelow HW3.out.below (Nat.le_succ _) _ _ _ _⟩
    | inr t =>
     obtain ⟨k,v,j⟩:=t
     rw [hG] at hcl HE
     have HCL : Hid (Calls Tryz.prog 82 #[.agg #[.slice (some ⟨g1,0,none⟩) (n + 1) c1,.slice (some ⟨g2,0,none⟩) (n + 1) c2],.int .i64 ((i : Int) + 2)] W0 fun e w' => e = .returned (.agg #[.int .i64 (k : Int),.int .i64 (v : Int),.int .i64 (j : Int),.int .i64 (-1)]) ∧ Below W0.heap.size W0 w'):=Lib.hid hcl
     clear hcl hv hG
     go_wp2_with (first | (go_at_call 80; refine (HM.out _).mono ?_; rintro e w1 ⟨rfl,rfl⟩) | (go_at_call 82; refine (HCL.out).mono ?_; rintro e w3 ⟨rfl,hb3⟩; have HW3:=Lib.hid (HW.out.next hb3); have k0:=HW3.out.res.frozen 0; have k1:=HW3.out.res.frozen 1; have k2:=HW3.out.res.frozen 2; have k3:=HW3.out.res.frozen 3; have k4:=HW3.out.res.cell 0; have k5:=HW3.out.res.cell 1; have k6:=HW3.out.res.cell 2; have k7:=HW3.out.res.cell 3; have k8:=HW3.out.res.lt; clear hb3))
     have hR:=gotEnd HW3.out.res (.int .i64 ((k : Int))) (.int .i64 ((v : Int))) (.int .i64 ((j : Int))) (.int .i64 (-1))
     refine bodyPost_ret (results_cell_row rfl _ _ (w.heap.size + 1) 101 #[.int .i64 ((k : Int)),.int .i64 ((v : Int)),.int .i64 ((j : Int)),.int .i64 (-1)] (0,0) _ rfl hR Tryz.underlying101 rfl (by kernel_rfl)) rfl ?_
     exact ⟨by rw [HE.out]; rfl,gotBelow HW3.out.below (Nat.le_succ _) _ _ _ _⟩
   have q117 : (z == 117) = false:=by rw [beq_eq_false_iff_ne]; exact z117
   have HE : Hid (oneP V i = .inl (i + 1)):=Lib.hid (by
    cases hv : V[i + 1]? with
    | none => exact one_end HC.out hv
    | some v =>
     have hzv : z = (v : Int):=HZ.out.symm.trans (vI_some hv)
     have hmk:=HMK.out
     rw [hzv,markZ_N] at hmk
     rw [one_back HC.out hv,if_neg (by rw [hmk]; decide),if_neg (by omega),if_neg (by omega),if_neg (by omega),if_neg (by omega),if_neg (by omega),if_neg (by omega)])
   clear z110 z114 z116 z119 z87 z115 z83 z120 z117
   go_wp2_with (go_at_call 80; refine (HM.out _).mono ?_; rintro e w1 ⟨rfl,rfl⟩)
   have hR:=gotEnd HW.out.res (.int .i64 0) (.int .i64 0) (.int .i64 0) (.int .i64 ((i : Int) + 1))
   refine bodyPost_ret (results_cell_row rfl _ _ (w.heap.size + 1) 101 #[.int .i64 0,.int .i64 0,.int .i64 0,.int .i64 ((i : Int) + 1)] (0,0) _ rfl hR Tryz.underlying101 rfl (by kernel_rfl)) rfl ?_
   exact ⟨by rw [HE.out]; rfl,gotBelow HW.out.below (Nat.le_succ _) _ _ _ _⟩
 ·have ci : ((c : Int) != 92) = true:=by simp; omega
  have HE : Hid (oneP V i = .inr (0,c,i + 1)):=Lib.hid (one_plain hc hc92)
  clear hc hc92
  go_wp2_with fail
  have hR:=gotEnd HW.out.res (.int .i64 0) (.int .i64 ((c : Int))) (.int .i64 ((i : Int) + 1)) (.int .i64 (-1))
  refine bodyPost_ret (results_cell_row rfl _ _ (w.heap.size + 1) 101 #[.int .i64 0,.int .i64 ((c : Int)),.int .i64 ((i : Int) + 1),.int .i64 (-1)] (0,0) _ rfl hR Tryz.underlying101 rfl (by kernel_rfl)) rfl ?_
  exact ⟨by rw [HE.out]; rfl,gotBelow HW.out.below (Nat.le_succ _) _ _ _ _⟩
def highG : Nat ⊕ (Nat × Nat) → Got
 | .inl b => .inl b
 | .inr (v,j) => .inr (0,v,j)
theorem one_kind {V : List Nat} {i k v j : Nat} (h : oneP V i = .inr (k,v,j)) (hk : k ≠ 0) : j = i + 2:=by
 unfold oneP at h
 cases hc : V[i]? with
 | none => rw [hc] at h; cases h
 | some c =>
  rw [hc] at h
  dsimp only at h
  by_cases h92 : c = 92
  ·rw [if_pos h92] at h
   cases hv : V[i + 1]? with
   | none => rw [hv] at h; cases h
   | some x =>
    rw [hv] at h
    dsimp only at h
    repeat' split at h
    all_goals first | (cases h; done) | (cases h; rfl) | (cases h; exact absurd rfl hk) | skip
    ·exfalso
     unfold hexP at h
     repeat' split at h
     all_goals first | (cases h; done) | (cases h; exact hk rfl)
    ·exfalso
     unfold runeP at h
     split at h
     ·dsimp only at h
      split at h
      ·cases h
      ·cases h; exact hk rfl
     ·cases h
  ·rw [if_neg h92] at h
   cases h
   exact absurd rfl hk
theorem highR6 (w : World) (g1 c1 g2 c2 n : Nat) (V : List Nat) (i lo : Nat) (hn : V.length = n) (hI : IntsAt w g1 (toZ V ++ [-1])) (hV : OkV V) (hi : i ≤ n) (hlo : OkC lo) (hnb : n ≤ 67108864) :
  Calls Tryz.prog 79 #[rdV g1 c1 g2 c2 n,.int .i64 (i : Int),.int .i64 (lo : Int)] w fun e w' => e = .returned (gotV (highG (highP V i lo))) ∧ Below w.heap.size w w':=by
 unfold rdV
 have hlb : lo < 2000000:=by unfold OkC wrongN at hlo; omega
 obtain ⟨lz,hlz⟩ : ∃ z : Int,(lo : Int) = z:=⟨_,rfl⟩
 rw [hlz]
 have HLZ:=Lib.hid hlz
 have hlzb : 0 ≤ lz ∧ lz < 2000000:=by omega
 obtain ⟨hlz0,hlz1⟩:=hlzb
 clear hlz
 have hst:=RdW.start (w:=w) (rd:=[.slice (some ⟨g1,0,none⟩) (n + 1) c1,.slice (some ⟨g2,0,none⟩) (n + 1) c2]) hI
 obtain ⟨W0,hW0⟩ : ∃ W,W = (w.alloc (.cells #[.slice (some ⟨g1,0,none⟩) (n + 1) c1,.slice (some ⟨g2,0,none⟩) (n + 1) c2] 95)).alloc (.cells #[.int .i64 0,.int .i64 0,.int .i64 0,.int .i64 0] 101):=⟨_,rfl⟩
 have hst2 : RdW w W0 [.slice (some ⟨g1,0,none⟩) (n + 1) c1,.slice (some ⟨g2,0,none⟩) (n + 1) c2] g1 V:=by rw [hW0]; exact hst
 have HW:=Lib.hid hst2
 have HW0:=Lib.hid hW0
 have HN:=Lib.hid hn
 have HV:=Lib.hid hV
 have b0 : W0.cell? ⟨w.heap.size,0,none⟩ = some (.slice (some ⟨g1,0,none⟩) (n + 1) c1):=hst2.box.cell 0
 have b1 : W0.cell? ⟨w.heap.size,1,none⟩ = some (.slice (some ⟨g2,0,none⟩) (n + 1) c2):=hst2.box.cell 1
 have bl:=hst2.box.lt
 have rf0:=hst2.res.frozen 0
 have rf1:=hst2.res.frozen 1
 have rf2:=hst2.res.frozen 2
 have rf3:=hst2.res.frozen 3
 have rc0:=hst2.res.cell 0
 have rc1:=hst2.res.cell 1
 have rc2:=hst2.res.cell 2
 have rc3:=hst2.res.cell 3
 have rl:=hst2.res.lt
 clear hst hst2 hW0 hn hV hI
 go_enter Tryz.func79, Tryz.ntmps79
 go_upto_region 1 with fail
 rw [← HW0.out]
 have hcell0:=HW.out.ints.v (i:=i) (by rw [HN.out]; exact hi)
 have hi1 : (i : Int) < ((n + 1 : Nat) : Int):=by omega
 have hi2 : (i : Int) < (n : Int) + 1:=by omega
 have hvb:=vI_bound HV.out i
 obtain ⟨z,hz⟩ : ∃ z,vI V i = z:=⟨_,rfl⟩
 rw [hz] at hcell0 hvb
 have HZ:=Lib.hid hz
 clear hz
 by_cases hm1 : z = -1
 ·have HE : Hid (highP V i lo = .inl i):=Lib.hid (by
   unfold highP
   refine if_pos (.inl ?_)
   cases hv : V[i]? with
   | none => rfl
   | some v => have:=HZ.out; rw [vI_some hv] at this; omega)
  subst hm1
  go_wp2_with fail
  have hR:=gotEnd HW.out.res (.int .i64 0) (.int .i64 0) (.int .i64 0) (.int .i64 ((i : Int)))
  refine bodyPost_ret (results_cell_row rfl _ _ (w.heap.size + 1) 101 #[.int .i64 0,.int .i64 0,.int .i64 0,.int .i64 ((i : Int))] (0,0) _ rfl hR Tryz.underlying101 rfl (by kernel_rfl)) rfl ?_
  exact ⟨by rw [HE.out]; rfl,gotBelow HW.out.below (Nat.le_succ _) _ _ _ _⟩
 by_cases h45 : z = 45
 ·have HE : Hid (highP V i lo = .inl i):=Lib.hid (by
   unfold highP
   exact if_pos (.inr (.inl (vI_eq (HZ.out.trans h45)))))
  subst h45
  clear hm1
  go_wp2_with fail
  have hR:=gotEnd HW.out.res (.int .i64 0) (.int .i64 0) (.int .i64 0) (.int .i64 ((i : Int)))
  refine bodyPost_ret (results_cell_row rfl _ _ (w.heap.size + 1) 101 #[.int .i64 0,.int .i64 0,.int .i64 0,.int .i64 ((i : Int))] (0,0) _ rfl hR Tryz.underlying101 rfl (by kernel_rfl)) rfl ?_
  exact ⟨by rw [HE.out]; rfl,gotBelow HW.out.below (Nat.le_succ _) _ _ _ _⟩
 by_cases h93 : z = 93
 ·have HE : Hid (highP V i lo = .inl i):=Lib.hid (by
   unfold highP
   exact if_pos (.inr (.inr (vI_eq (HZ.out.trans h93)))))
  subst h93
  clear hm1 h45
  go_wp2_with fail
  have hR:=gotEnd HW.out.res (.int .i64 0) (.int .i64 0) (.int .i64 0) (.int .i64 ((i : Int)))
  refine bodyPost_ret (results_cell_row rfl _ _ (w.heap.size + 1) 101 #[.int .i64 0,.int .i64 0,.int .i64 0,.int .i64 ((i : Int))] (0,0) _ rfl hR Tryz.underlying101 rfl (by kernel_rfl)) rfl ?_
  exact ⟨by rw [HE.out]; rfl,gotBelow HW.out.below (Nat.le_succ _) _ _ _ _⟩
 have q1 : (z == -1) = false:=by rw [beq_eq_false_iff_ne]; exact hm1
 have q2 : (z == 45) = false:=by rw [beq_eq_false_iff_ne]; exact h45
 have q3 : (z == 93) = false:=by rw [beq_eq_false_iff_ne]; exact h93
 have hil : i < n:=by
  apply Decidable.byContradiction
  intro hc
  exact hm1 (by rw [← HZ.out]; exact vI_none (List.getElem?_eq_none (by rw [HN.out]; omega)))
 have hcond : ¬ (V[i]? = none ∨ V[i]? = some 45 ∨ V[i]? = some 93):=by
  rintro (h | h | h)
  ·exact hm1 (by rw [← HZ.out]; exact vI_none h)
  ·exact h45 (by rw [← HZ.out]; exact vI_some h)
  ·exact h93 (by rw [← HZ.out]; exact vI_some h)
 have hH : highP V i lo = match oneP V i with
  | .inl b => .inl b
  | .inr (k,v,j) => if k ≠ 0 ∨ v < lo ∨ wrongN ≤ v ∨ wrongN ≤ lo then .inl (j - 1) else .inr (v,j):=by
  unfold highP
  exact if_neg hcond
 have hO:=oneR6 W0 g1 c1 g2 c2 n V i HN.out HW.out.ints HV.out hil hnb
 have hle:=oneP_le V HV.out i (by rw [HN.out]; omega)
 clear hm1 h45 h93 hcond
 cases hG : oneP V i with
 | inl b =>
  rw [hG] at hO hH hle
  have HE : Hid (highP V i lo = .inl b):=Lib.hid hH
  have hb0 : (0 : Int) ≤ (b : Int):=by omega
  have HO : Hid (Calls Tryz.prog 55 #[.agg #[.slice (some ⟨g1,0,none⟩) (n + 1) c1,.slice (some ⟨g2,0,none⟩) (n + 1) c2],.int .i64 (i : Int)] W0 fun e w' => e = .returned (.agg #[.int .i64 0,.int .i64 0,.int .i64 0,.int .i64 (b : Int)]) ∧ Below W0.heap.size W0 w'):=Lib.hid hO
  clear hO hH hG hle
  go_wp2_with (go_at_call 55; refine (HO.out).mono ?_; rintro e w3 ⟨rfl,hb3⟩; have hw4:=(HW.out.next hb3).next ((Below.refl _ w3).alloc (Nat.le_refl _) (.cells #[.int .i64 0,.int .i64 0,.int .i64 0,.int .i64 ((b : Int))] 101)); have HW4:=Lib.hid hw4; have k0:=hw4.res.frozen 0; have k1:=hw4.res.frozen 1; have k2:=hw4.res.frozen 2; have k3:=hw4.res.frozen 3; have k4:=hw4.res.cell 0; have k5:=hw4.res.cell 1; have k6:=hw4.res.cell 2; have k7:=hw4.res.cell 3; have k8:=hw4.res.lt; clear hb3 hw4)
  have hR:=gotEnd HW4.out.res (.int .i64 0) (.int .i64 0) (.int .i64 0) (.int .i64 ((b : Int)))
  refine bodyPost_ret (results_cell_row rfl _ _ (w.heap.size + 1) 101 #[.int .i64 0,.int .i64 0,.int .i64 0,.int .i64 ((b : Int))] (0,0) _ rfl hR Tryz.underlying101 rfl (by kernel_rfl)) rfl ?_
  exact ⟨by rw [HE.out]; rfl,gotBelow HW4.out.below (Nat.le_succ _) _ _ _ _⟩
 | inr t =>
  obtain ⟨k,v,j⟩:=t
  rw [hG] at hO hH hle
  dsimp only at hH
  obtain ⟨hj1,hj2,hok⟩:=hle
  rw [HN.out] at hj2
  have HO : Hid (Calls Tryz.prog 55 #[.agg #[.slice (some ⟨g1,0,none⟩) (n + 1) c1,.slice (some ⟨g2,0,none⟩) (n + 1) c2],.int .i64 (i : Int)] W0 fun e w' => e = .returned (.agg #[.int .i64 (k : Int),.int .i64 (v : Int),.int .i64 (j : Int),.int .i64 (-1)]) ∧ Below W0.heap.size W0 w'):=Lib.hid hO
  by_cases hk : k = 0
  ·subst hk
   have HO : Hid (Calls Tryz.prog 55 #[.agg #[.slice (some ⟨g1,0,none⟩) (n + 1) c1,.slice (some ⟨g2,0,none⟩) (n + 1) c2],.int .i64 (i : Int)] W0 fun e w' => e = .returned (.agg #[.int .i64 0,.int .i64 (v : Int),.int .i64 (j : Int),.int .i64 (-1)]) ∧ Below W0.heap.size W0 w'):=HO
   obtain ⟨vz,hvz⟩ : ∃ z : Int,(v : Int) = z:=⟨_,rfl⟩
   rw [hvz] at HO
   have HVZ:=Lib.hid hvz
   have hlz:=HLZ.out
   have hvb2 : v < 2000000:=by have:=hok rfl; unfold OkC wrongN at this; omega
   by_cases hcc : v < lo ∨ wrongN ≤ v ∨ wrongN ≤ lo
   ·have HE : Hid (highP V i lo = .inl (j - 1)):=Lib.hid (by rw [hH]; exact if_pos (.inr hcc))
    have hjc : ((j - 1 : Nat) : Int) = (j : Int) - 1:=by omega
    clear hO hH hG hok
    have hvzb : 0 ≤ vz ∧ vz < 2000000:=by omega
    obtain ⟨hvz0,hvz1⟩:=hvzb
    by_cases a1 : v < lo
    ·have b1 : vz < lz:=by omega
     clear hcc hvz hlz
     go_wp2_with (go_at_call 55; refine (HO.out).mono ?_; rintro e w3 ⟨rfl,hb3⟩; have hw4:=(HW.out.next hb3).next ((Below.refl _ w3).alloc (Nat.le_refl _) (.cells #[.int .i64 0,.int .i64 (vz),.int .i64 ((j : Int)),.int .i64 (-1)] 101)); have HW4:=Lib.hid hw4; have k0:=hw4.res.frozen 0; have k1:=hw4.res.frozen 1; have k2:=hw4.res.frozen 2; have k3:=hw4.res.frozen 3; have k4:=hw4.res.cell 0; have k5:=hw4.res.cell 1; have k6:=hw4.res.cell 2; have k7:=hw4.res.cell 3; have k8:=hw4.res.lt; clear hb3 hw4)
     have hR:=gotEnd HW4.out.res (.int .i64 0) (.int .i64 0) (.int .i64 0) (.int .i64 ((j : Int) - 1))
     refine bodyPost_ret (results_cell_row rfl _ _ (w.heap.size + 1) 101 #[.int .i64 0,.int .i64 0,.int .i64 0,.int .i64 ((j : Int) - 1)] (0,0) _ rfl hR Tryz.underlying101 rfl (by kernel_rfl)) rfl ?_
     exact ⟨by rw [HE.out,← hjc]; rfl,gotBelow HW4.out.below (Nat.le_succ _) _ _ _ _⟩
    ·have b1 : ¬ vz < lz:=by omega
     by_cases a2 : wrongN ≤ v
     ·have b2 : (1114112 : Int) ≤ vz:=by unfold wrongN at a2; omega
      clear hcc hvz hlz
      go_wp2_with (go_at_call 55; refine (HO.out).mono ?_; rintro e w3 ⟨rfl,hb3⟩; have hw4:=(HW.out.next hb3).next ((Below.refl _ w3).alloc (Nat.le_refl _) (.cells #[.int .i64 0,.int .i64 (vz),.int .i64 ((j : Int)),.int .i64 (-1)] 101)); have HW4:=Lib.hid hw4; have k0:=hw4.res.frozen 0; have k1:=hw4.res.frozen 1; have k2:=hw4.res.frozen 2; have k3:=hw4.res.frozen 3; have k4:=hw4.res.cell 0; have k5:=hw4.res.cell 1; have k6:=hw4.res.cell 2; have k7:=hw4.res.cell 3; have k8:=hw4.res.lt; clear hb3 hw4)
      have hR:=gotEnd HW4.out.res (.int .i64 0) (.int .i64 0) (.int .i64 0) (.int .i64 ((j : Int) - 1))
      refine bodyPost_ret (results_cell_row rfl _ _ (w.heap.size + 1) 101 #[.int .i64 0,.int .i64 0,.int .i64 0,.int .i64 ((j : Int) - 1)] (0,0) _ rfl hR Tryz.underlying101 rfl (by kernel_rfl)) rfl ?_
      exact ⟨by rw [HE.out,← hjc]; rfl,gotBelow HW4.out.below (Nat.le_succ _) _ _ _ _⟩
     ·exfalso; unfold wrongN at a2 hcc; omega
   ·have HE : Hid (highP V i lo = .inr (v,j)):=Lib.hid (by rw [hH]; exact if_neg (by rintro (h | h); exact h rfl; exact hcc h))
    have b1 : ¬ vz < lz:=by omega
    have b2 : ¬ (1114112 : Int) ≤ vz:=by unfold wrongN at hcc; omega
    have b3 : ¬ (1114112 : Int) ≤ lz:=by unfold wrongN at hcc; omega
    clear hO hH hG hok hcc
    have hvzb : 0 ≤ vz ∧ vz < 2000000:=by omega
    obtain ⟨hvz0,hvz1⟩:=hvzb
    clear hvz hlz
    go_wp2_with (go_at_call 55; refine (HO.out).mono ?_; rintro e w3 ⟨rfl,hb3⟩; have hw4:=(HW.out.next hb3).next ((Below.refl _ w3).alloc (Nat.le_refl _) (.cells #[.int .i64 0,.int .i64 (vz),.int .i64 ((j : Int)),.int .i64 (-1)] 101)); have HW4:=Lib.hid hw4; have k0:=hw4.res.frozen 0; have k1:=hw4.res.frozen 1; have k2:=hw4.res.frozen 2; have k3:=hw4.res.frozen 3; have k4:=hw4.res.cell 0; have k5:=hw4.res.cell 1; have k6:=hw4.res.cell 2; have k7:=hw4.res.cell 3; have k8:=hw4.res.lt; clear hb3 hw4)
    have hR:=gotEnd HW4.out.res (.int .i64 0) (.int .i64 (vz)) (.int .i64 ((j : Int))) (.int .i64 (-1))
    refine bodyPost_ret (results_cell_row rfl _ _ (w.heap.size + 1) 101 #[.int .i64 0,.int .i64 (vz),.int .i64 ((j : Int)),.int .i64 (-1)] (0,0) _ rfl hR Tryz.underlying101 rfl (by kernel_rfl)) rfl ?_
    exact ⟨by rw [HE.out,← HVZ.out]; rfl,gotBelow HW4.out.below (Nat.le_succ _) _ _ _ _⟩
  ·have hk2 : ((k : Int) != 0) = true:=by simp; omega
   have hj3:=one_kind hG hk
   have HE : Hid (highP V i lo = .inl (i + 1)):=Lib.hid (by rw [hH,hj3]; exact if_pos (.inl hk))
   clear hO hH hG hok hj3 hk
   go_wp2_with (go_at_call 55; refine (HO.out).mono ?_; rintro e w3 ⟨rfl,hb3⟩; have hw4:=(HW.out.next hb3).next ((Below.refl _ w3).alloc (Nat.le_refl _) (.cells #[.int .i64 ((k : Int)),.int .i64 ((v : Int)),.int .i64 ((j : Int)),.int .i64 (-1)] 101)); have HW4:=Lib.hid hw4; have k0:=hw4.res.frozen 0; have k1:=hw4.res.frozen 1; have k2:=hw4.res.frozen 2; have k3:=hw4.res.frozen 3; have k4:=hw4.res.cell 0; have k5:=hw4.res.cell 1; have k6:=hw4.res.cell 2; have k7:=hw4.res.cell 3; have k8:=hw4.res.lt; clear hb3 hw4)
   have hR:=gotEnd HW4.out.res (.int .i64 0) (.int .i64 0) (.int .i64 0) (.int .i64 ((i : Int) + 1))
   refine bodyPost_ret (results_cell_row rfl _ _ (w.heap.size + 1) 101 #[.int .i64 0,.int .i64 0,.int .i64 0,.int .i64 ((i : Int) + 1)] (0,0) _ rfl hR Tryz.underlying101 rfl (by kernel_rfl)) rfl ?_
   exact ⟨by rw [HE.out]; rfl,gotBelow HW4.out.below (Nat.le_succ _) _ _ _ _⟩
end Go.Proofs.YtchdeboialbdiaaGreatDoor
