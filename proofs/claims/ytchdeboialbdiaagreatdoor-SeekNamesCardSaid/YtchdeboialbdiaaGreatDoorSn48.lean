/- Texts joined, one behind the other (LSeekNames). -/
import Derived.Test.YtchdeboialbdiaaGreatDoorSn47
namespace Go.Proofs.YtchdeboialbdiaaGreatDoor
set_option linter.unusedVariables false
set_option linter.unusedSimpArgs false
set_option maxHeartbeats 8000000
set_option maxRecDepth 100000
open Go.RowKit Go.Shelf
open Go.Lib hiding intOf
attribute [local go_sem] Oper.semAt_some
attribute [local go_sem] Exit.noGoto
theorem wpListIn_runV {F : Fence} {n : Nat} {P : Program} {w : World} {ops : Array Oper} {rest : List Oper} {o : Oper} {a : Act} {Q : Exit → Act → World → Prop} (hgd : o.guard = none) (v : Value) (w' : World) (hab : o.about P w a.eval = none) (hrun : (o.semAt F.round a.eval).run P w = .ok (.value v) w')
  (h : wpListIn F n P ops Q rest (a.put o.dst v) w') : wpListIn F n P ops Q (o :: rest) a w :=
 wpListIn_plain hgd fun K hK => ⟨fun f hf => (by rw [hab] at hf; cases hf),by rw [hrun,Oper.uponIn_value]; exact hK _ _ h⟩
def nmA : List (List UInt8):=[[],[92,105],[42],[97,42,42],[91,93],[91,94,93],[91,98,45,97,93],[91,97],[91,97,45],[91,97,45,93],[91,45,97,93],[91,97,45,98,45,99,93],[91,97,45,45,93],[91,92,119,45,97,93],[91,97,45,92,119,93],[91,97,45,92,113,93],[92],[92,113],[92,56],[92,120,56,103],[92,120,56],[92,117],[92,117,123,125],[92,117,123,100,56,48,48,125],[92,117,123,49,49,48,48,48,48,125],[92,117,123,49,50,51,52,53,54,55,125],[92,117,123,52,49],[94,43],[36,63],[97,92,105],[92,105,42],[92,105,97],[92,195,169],[92,255],[91,255,45,255,93],[91,97,45,92,120,56,48,93],[91,97,45,92,120,55,102,93],[91,92,117,123,49,70,54,48,48,125,45,92,117,123,49,102,54,52,102,125,93,43,36],[93],[97,45,98],[123,125],[40,97,124,98,41],[255,43],[91,94,255,93],[91,92,94,94,93],[92,45],[92,32],[92,126,92,33,92,47,92,58,92,64,92,91,92,96,92,123]]
def nmB : List (List UInt8):=[[94],[36],[94,46],[46,36],[94,36],[92,110,94],[36,92,110],[92,114,36],[94,92,110],[94,97,63,36]]
def nmC : List (List UInt8):=[[92,105,65,43],[92,105,91,97,45,122,93,43],[92,105,91,94,195,169,93,43],[92,105,107,43],[92,105,91,65,93],[92,105,226,132,170],[92,105,195,137,43],[92,105,91,195,169,93,43],[91,195,169,93,43],[92,105,91,94,97,45,122,195,169,93],[92,105,195]]
def nmV (L : List (List UInt8)) : List Value:=L.map fun s => .string (bstr s)
theorem nm_small {L : List (List UInt8)} (h : (L.all fun s => decide (s.length ≤ 1000)) = true) {i : Nat} (hi : i < L.length) : ∃ s,L[i]? = some s ∧ s.length ≤ 1000 ∧ (nmV L)[i]? = some (.string (bstr s)):=by
 refine ⟨L[i],List.getElem?_eq_getElem hi,?_,?_⟩
 ·have:=List.all_eq_true.1 h _ (List.getElem_mem hi)
  simpa using this
 ·unfold nmV
  rw [List.getElem?_map,List.getElem?_eq_getElem hi]
  rfl
def nmS1 : List UInt8:=[97,98,45,99,93,123,125,94,195,169,255,13,10,240,159,152,128,40,97,124,98,41]
def nmS2 : List UInt8:=[13,10,97,13,13,10,10,226,128,168,194,133,226,128,168,97]
def nmS3 : List UInt8:=[97,10,13]
def nmS4 : List UInt8:=[97,65,195,169,195,137,226,132,170,75,107,195]
theorem raw_new (W : World) (X : List RawB) : ReadsRaw (W.alloc (.cells (X.flatMap rawCells).toArray 30)) (some ⟨W.heap.size,0,none⟩) X.length X:=by
 refine ⟨rfl,fun _ => ⟨W.heap.size,0,rfl,by simp,fun i p hp => ?_⟩⟩
 have hr : Row (W.alloc (.cells (X.flatMap rawCells).toArray 30)) W.heap.size 30 (X.flatMap rawCells):=row_new W _ _
 have key : ∀ k,k < 3 → (W.alloc (.cells (X.flatMap rawCells).toArray 30)).cell? ⟨W.heap.size,0 + i * 3 + k,none⟩ = (rawCells p)[k]?:=fun k hk => by
  rw [hr.cell,Nat.zero_add,flatR_at rawCells 3 (fun _ => rfl) X i k p hp hk]
 exact ⟨key 0 (by decide),key 1 (by decide),key 2 (by decide)⟩
theorem infoU8n : (Tryz.prog.info? 5).map (fun i => (i.zero,i.size,i.bytes)) = some (some (.int .u8 0),1,1):=by kernel_rfl
theorem make257 (w : World) :
  ∃ wm,(Instr.makeSlice 32 (.int .i64 257) (.int .i64 257)).run Tryz.prog w = .ok (.slice (some ⟨w.heap.size,0,none⟩) 257 257) wm ∧ Row wm w.heap.size 5 (List.replicate 257 (.int .u8 0)) ∧ Below w.heap.size w wm:=by
 obtain ⟨i0,hi,hz0,hz1,hz2⟩:=info_parts infoU8n
 have hr:=run_make (P:=Tryz.prog) w 32 5 i0 (.int .u8 0) Tryz.underlying32 hi hz0 .i64 .i64 257 257 (by omega) (Int.le_refl _) (by rw [hz2]; omega) (by omega)
 rw [hz1] at hr
 rw [show ((257 : Int)).toNat = 257 from rfl,show (Value.int .u8 0).cells = #[.int .u8 0] from rfl,Nat.mul_one] at hr
 refine ⟨_,hr,?_,(Below.refl _ w).alloc (Nat.le_refl _) _⟩
 have h1:=heap_alloc_new w (.cells (madeCells #[.int .u8 0] 257) 5)
 unfold Row
 rw [show List.replicate 257 (Value.int .u8 0) = (madeCells #[.int .u8 0] 257).toList from (made_bs 1 (by decide) (.int .u8 0) 257).symm]
 simpa using h1
def longV (k : Nat) : List Value:=List.replicate k (.int .u8 97) ++ List.replicate (257 - k) (.int .u8 0)
theorem longV_len (k : Nat) (h : k ≤ 257) : (longV k).length = 257:=by unfold longV; rw [List.length_append,List.length_replicate,List.length_replicate]; omega
theorem longV_set (k : Nat) (h : k < 257) : (longV k).set k (.int .u8 97) = longV (k + 1):=by
 unfold longV
 rw [List.set_append_right _ _ (by rw [List.length_replicate]; exact Nat.le_refl _),List.length_replicate,Nat.sub_self,show 257 - k = (257 - (k + 1)) + 1 by omega,List.replicate_succ,List.set_cons_zero,List.replicate_succ',List.append_assoc]
 rfl
theorem longV_at (k : Nat) (h : k < 257) : ∃ v,(longV k)[k]? = some v:=⟨_,List.getElem?_eq_getElem (by rw [longV_len k (by omega)]; exact h)⟩
theorem longV_conv {w : World} {g : Nat} (h : Row w g 5 (longV 257)) (n c : Nat) (hn : n ≤ 257) : (convert 32 9 (.slice (some ⟨g,0,none⟩) n c)).run Tryz.prog w = .ok (.string (bstr (List.replicate n (97 : UInt8)))) w:=by
 have h1:=h.reads 0 n (by rw [longV_len 257 (Nat.le_refl _)]; omega)
 have h2 : ((longV 257).drop 0).take n = (List.replicate n (97 : UInt8)).map B8:=by
  unfold longV
  rw [List.drop_zero,Nat.sub_self,List.replicate_zero,List.append_nil,List.take_replicate,List.map_replicate,Nat.min_eq_left hn]
  rfl
 rw [h2] at h1
 exact run_bytes_str w _ _ 5 Tryz.underlying32 Tryz.underlying5 Tryz.underlying9 _ n c _ h1
theorem seq_nil8 (gf : Nat) (lb : Array Value) (w : World) : (binOp .eql 44 (.func (.func gf) #[] lb) .nilFunc).run Tryz.prog w = .ok (.bool false) w:=by kernel_rfl
theorem wpIn_rangeFunc_0 {α : Type} {F : Fence} {n : Nat} {P : Program} {g : Operand} {ps : Array Tmp} {assign body : Code} {Q : Exit → Act → World → Prop} {a : Act} {w : World}
  (hro : F.round = none) (h1 : 1 ≤ n) {gf : Nat} {lb : Array Value} (hg : a.eval g = .func (.func gf) #[] lb) (hFg : F.fn gf) (eg : ∀ args w,(callFunc gf args).run P w = .ok (.enter gf args) w)
  {encs : α → Array Value} {K : Nat → Prop} {w0 : World} (hseq : SeqC F (n - 1) P gf lb encs K w0 (fun xs => xs = []) (fun _ => False))
  (hb0 : ∀ r,K r → r < w0.heap.size ∧ w.heap[r]? = w0.heap[r]?) (hn0 : w0.heap.size ≤ w.heap.size) (hps : ∀ x,(encs x).size = ps.size)
  (hassign : ∀ (l : Nat) (a' : Act) (W : World) (Kc : Act → World → Prop),Kc a' W → assign.wpIn (F.inRound l) (n - 1 - 1) P (Exit.then Kc (fun _ _ _ => False)) a' W)
  (hdone : ∀ (D : Nat) (W : World),w.heap.size ≤ D → Below w.heap.size w W → W.heap[D]? = some (.deferred (some [])) → Q .normal { a with defers:={ target:=.collected D,args:=#[] } :: a.defers } W) :
  (Code.rangeFunc g ps assign body).wpIn F n P Q a w :=
 wpIn_rangeFunc_C hro h1 hg hFg eg hseq hb0 hn0 hps (fun hi pre W => Below w.heap.size w W) (fun c hi pre W => False)
  (fun hi pre A A' row h hgr hm => h.grown hgr h.size (fun r e => (hm r e).1)) (fun c hi pre A A' row h _ _ => h) (fun hi hh => Below.refl _ _)
  (fun x => { tmps:=(ps.zip (encs x)).foldl (fun t (p,v) => t.setIfInBounds p v) a.tmps,defers:=[] }) (fun l x W Kc h => hassign l _ W Kc h) (fun l hi pre x W _ _ hsp _ => hsp.elim)
  (fun D hi xs W h1 h2 h3 h4 h5 => hdone D W h1 h4 h5) (fun D hi c pre W _ _ hsp _ _ => hsp.elim)
theorem seekNames_walk (w : World) (hT : Tabs w) (hE : ErrT w) :
  Calls Tryz.prog 3 #[] w fun e w' => e = .returned (.bool true) ∧ Below w.heap.size w w':=by
 have HCO : Hid (∀ W,Below w.heap.size w W → ∀ l : List UInt8,l.length ≤ 1000 → Calls Tryz.prog 4 #[.string (bstr l)] W fun e w' => e = .returned (.bool true) ∧ Below W.heap.size W w'):=Lib.hid (fun W hb l hl => seekCompiles_walk W l (by omega) (hT.next hb) (hE.next hb))
 have HMA : Hid (∀ W,Below w.heap.size w W → ∀ l : List UInt8,l.length ≤ 1000 → Calls Tryz.prog 5 #[.agg #[.string (bstr l),.string { data:=#[97,98,45,99,93,123,125,94,195,169,255,13,10,240,159,152,128,40,97,124,98,41] },.int .i64 1,.int .i64 1,.int .i64 9]] W fun e w' => e = .returned (.bool true) ∧ Below W.heap.size W w'):=Lib.hid (fun W hb l hl => seekMatches_walk W l nmS1 1 1 9 (by omega) (hT.next hb))
 have HAL1 : Hid (∀ W,Below w.heap.size w W → ∀ l : List UInt8,l.length ≤ 1000 → Calls Tryz.prog 6 #[.string (bstr l),.string { data:=#[13,10,97,13,13,10,10,226,128,168,194,133,226,128,168,97] },.int .i64 1] W fun e w' => e = .returned (.bool true) ∧ Below W.heap.size W w'):=Lib.hid (fun W hb l hl => seekAll_walk W l (by omega) nmS2 (by decide) 1 (by decide) (hT.next hb))
 have HAL2 : Hid (∀ W,Below w.heap.size w W → ∀ l : List UInt8,l.length ≤ 1000 → Calls Tryz.prog 6 #[.string (bstr l),.string { data:=#[97,10,13] },.int .i64 0] W fun e w' => e = .returned (.bool true) ∧ Below W.heap.size W w'):=Lib.hid (fun W hb l hl => seekAll_walk W l (by omega) nmS3 (by decide) 0 (by decide) (hT.next hb))
 have HAL3 : Hid (∀ W,Below w.heap.size w W → ∀ l : List UInt8,l.length ≤ 1000 → Calls Tryz.prog 6 #[.string (bstr l),.string { data:=#[] },.int .i64 0] W fun e w' => e = .returned (.bool true) ∧ Below W.heap.size W w'):=Lib.hid (fun W hb l hl => seekAll_walk W l (by omega) [] (by decide) 0 (by decide) (hT.next hb))
 have HAL4 : Hid (∀ W,Below w.heap.size w W → ∀ l : List UInt8,l.length ≤ 1000 → Calls Tryz.prog 6 #[.string (bstr l),.string { data:=#[97,65,195,169,195,137,226,132,170,75,107,195] },.int .i64 1] W fun e w' => e = .returned (.bool true) ∧ Below W.heap.size W w'):=Lib.hid (fun W hb l hl => seekAll_walk W l (by omega) nmS4 (by decide) 1 (by decide) (hT.next hb))
 have HM1 : Hid (∀ W,Below w.heap.size w W → Calls Tryz.prog 7 #[.slice (some ⟨W.heap.size,0,none⟩) 2 2,.string { data:=#[97,97,98,97] },.int .i64 0] (W.alloc (.cells #[.int .i32 97,.bool false,.int .i64 1,.int .i32 97,.bool false,.int .i64 2] 30)) fun e w' => e = .returned (.bool true) ∧ Below W.heap.size W w'):=Lib.hid (fun W hb => (seekMeans_walk _ _ 2 2 [(97,false,1),(97,false,2)] (raw_new W [(97,false,1),(97,false,2)]) (by decide) (by unfold maxLen; omega) [97,97,98,97] (by decide) 0 (by decide) (hT.next (hb.alloc hb.size _))).mono (by
  rintro e w' ⟨rfl,h⟩
  exact ⟨rfl,((Below.refl _ W).alloc (Nat.le_refl _) _).trans (h.mono (by simp))⟩))
 have HM2 : Hid (∀ W,Below w.heap.size w W → Calls Tryz.prog 7 #[.slice (some ⟨W.heap.size,0,none⟩) 3 3,.string { data:=#[97,97,98,97,97] },.int .i64 0] (W.alloc (.cells #[.int .i32 97,.bool false,.int .i64 1,.int .i32 97,.bool false,.int .i64 3,.int .i32 97,.bool false,.int .i64 2] 30)) fun e w' => e = .returned (.bool true) ∧ Below W.heap.size W w'):=Lib.hid (fun W hb => (seekMeans_walk _ _ 3 3 [(97,false,1),(97,false,3),(97,false,2)] (raw_new W [(97,false,1),(97,false,3),(97,false,2)]) (by decide) (by unfold maxLen; omega) [97,97,98,97,97] (by decide) 0 (by decide) (hT.next (hb.alloc hb.size _))).mono (by
  rintro e w' ⟨rfl,h⟩
  exact ⟨rfl,((Below.refl _ W).alloc (Nat.le_refl _) _).trans (h.mono (by simp))⟩))
 have HT:=Lib.hid hT
 clear hT hE
 refine (callsIn_wide (n:=40)).1 ?_
 refine callsIn_of_wp_marks Tryz.func3 rfl trivial ?_ rfl
 simp only [Tryz.ntmps3,List.size_toArray,List.length_cons,List.length_nil,Nat.reduceAdd,Nat.reduceSub,Array.replicate_succ,Array.replicate_zero,List.push_toArray,List.append_toArray,List.nil_append,List.cons_append]
 gi_wp2_with ((with_reducible show wpListIn _ _ _ _ _ (Oper.mk (some 20) _ _ _ _ _ :: _) _ _); go_must (refine wpListIn_runV rfl (.slice (some ⟨w.heap.size,0,none⟩) 48 48) (w.alloc (.cells (nmV nmA).toArray 9)) (by kernel_rfl) (by kernel_rfl) ?_))
 obtain ⟨WA,hWA⟩ : ∃ W,W = w.alloc (.cells (nmV nmA).toArray 9):=⟨_,rfl⟩
 rw [← hWA]
 have HA0 : Hid (Row WA w.heap.size 9 (nmV nmA) ∧ Below w.heap.size w WA):=Lib.hid (by rw [hWA]; exact ⟨row_new w (nmV nmA) _,(Below.refl _ w).alloc (Nat.le_refl _) _⟩)
 clear hWA
 gi_loopw [2] (fun u wr => ∃ k : Nat,u = .int .i64 (k : Int) ∧ k ≤ 48 ∧ Hid (Row wr w.heap.size 9 (nmV nmA) ∧ Below w.heap.size w wr)) (fun u _ => 48 - (RowKit.intOf u).toNat)
 case atStart => exact ⟨0,rfl,by omega,HA0⟩
 case round =>
  obtain ⟨k,rfl,hk,HR⟩:=hrel
  clear HA0
  by_cases hlt : k < 48
  ·have hki : (k : Int) < 48:=by omega
   obtain ⟨s,hs1,hs2,hs3⟩:=nm_small (L:=nmA) (by kernel_rfl) (i:=k) hlt
   have c0 : wr.cell? ⟨w.heap.size,k,none⟩ = some (.string (bstr s)):=(HR.out.1.cell k).trans hs3
   have cl:=HR.out.1.lt
   have HS2:=Lib.hid hs2
   have HS3:=Lib.hid hs3
   clear hs1 hs2 hs3
   gi_wp2_with (first
    | (refine ⟨trivial,?_⟩; gi_at_call 4; refine (callsIn_wide.2 (HCO.out _ HR.out.2 s HS2.out)).mono ?_; rintro e w1 ⟨rfl,hb1⟩; have hr1:=HR.out.1.keep hb1 HR.out.1.lt; have c1 : w1.cell? ⟨w.heap.size,k,none⟩ = some (.string (bstr s)):=(hr1.cell k).trans HS3.out; have c2:=hr1.lt; have H1:=Lib.hid (And.intro hr1 (HR.out.2.trans (hb1.mono HR.out.2.size))); clear hb1 hr1)
    | (refine ⟨trivial,?_⟩; gi_at_call 5; refine (callsIn_wide.2 (HMA.out _ H1.out.2 s HS2.out)).mono ?_; rintro e w2 ⟨rfl,hb2⟩; have H2:=Lib.hid (And.intro (H1.out.1.keep hb2 H1.out.1.lt) (H1.out.2.trans (hb2.mono H1.out.2.size))); clear hb2))
   go_roundw
   case rel => exact ⟨k + 1,by go_num,by omega,H2⟩
   case measure => simp [RowKit.intOf]; omega
  ·obtain rfl : k = 48:=by omega
   have HAE : Hid (Below w.heap.size w wr):=Lib.hid HR.out.2
   gi_wp2_with ((with_reducible show wpListIn _ _ _ _ _ (Oper.mk (some 42) _ _ _ _ _ :: _) _ _); go_must (refine wpListIn_runV rfl (.slice (some ⟨wr.heap.size,0,none⟩) 10 10) (wr.alloc (.cells (nmV nmB).toArray 9)) (by kernel_rfl) (by kernel_rfl) ?_))
   obtain ⟨WB,hWB⟩ : ∃ W,W = wr.alloc (.cells (nmV nmB).toArray 9):=⟨_,rfl⟩
   rw [← hWB]
   have HB0 : Hid (Row WB wr.heap.size 9 (nmV nmB) ∧ Below w.heap.size w WB):=Lib.hid (by rw [hWB]; exact ⟨row_new wr (nmV nmB) _,HAE.out.alloc HAE.out.size _⟩)
   clear hWB
   obtain ⟨bB,hbB⟩ : ∃ b,b = wr.heap.size:=⟨_,rfl⟩
   rw [← hbB] at HB0 ⊢
   clear hbB hk hlt
   gi_loopw [4] (fun u wr => ∃ k : Nat,u = .int .i64 (k : Int) ∧ k ≤ 10 ∧ Hid (Row wr bB 9 (nmV nmB) ∧ Below w.heap.size w wr)) (fun u _ => 10 - (RowKit.intOf u).toNat)
   case atStart => exact ⟨0,rfl,by omega,HB0⟩
   case round =>
    obtain ⟨k,rfl,hk,HR⟩:=hrel
    clear HB0
    by_cases hlt : k < 10
    ·have hki : (k : Int) < 10:=by omega
     obtain ⟨s,hs1,hs2,hs3⟩:=nm_small (L:=nmB) (by kernel_rfl) (i:=k) hlt
     have c0 : wr.cell? ⟨bB,k,none⟩ = some (.string (bstr s)):=(HR.out.1.cell k).trans hs3
     have cl:=HR.out.1.lt
     have HS2:=Lib.hid hs2
     have HS3:=Lib.hid hs3
     clear hs1 hs2 hs3
     gi_wp2_with (first
      | (refine ⟨trivial,?_⟩; gi_at_call 6; (with_reducible refine (callsIn_wide.2 (HAL1.out wr HR.out.2 s HS2.out)).mono ?_); rintro e w1 ⟨rfl,hb1⟩; have hr1:=HR.out.1.keep hb1 HR.out.1.lt; have c1 : w1.cell? ⟨bB,k,none⟩ = some (.string (bstr s)):=(hr1.cell k).trans HS3.out; have cl1:=hr1.lt; have H1:=Lib.hid (And.intro hr1 (HR.out.2.trans (hb1.mono HR.out.2.size))); clear hb1 hr1)
      | (refine ⟨trivial,?_⟩; gi_at_call 6; (with_reducible refine (callsIn_wide.2 (HAL2.out w1 H1.out.2 s HS2.out)).mono ?_); rintro e w2 ⟨rfl,hb1⟩; have hr1:=H1.out.1.keep hb1 H1.out.1.lt; have c2 : w2.cell? ⟨bB,k,none⟩ = some (.string (bstr s)):=(hr1.cell k).trans HS3.out; have cl2:=hr1.lt; have H2:=Lib.hid (And.intro hr1 (H1.out.2.trans (hb1.mono H1.out.2.size))); clear hb1 hr1)
      | (refine ⟨trivial,?_⟩; gi_at_call 6; (with_reducible refine (callsIn_wide.2 (HAL3.out w2 H2.out.2 s HS2.out)).mono ?_); rintro e w3 ⟨rfl,hb1⟩; have hr1:=H2.out.1.keep hb1 H2.out.1.lt; have c3 : w3.cell? ⟨bB,k,none⟩ = some (.string (bstr s)):=(hr1.cell k).trans HS3.out; have cl3:=hr1.lt; have H3:=Lib.hid (And.intro hr1 (H2.out.2.trans (hb1.mono H2.out.2.size))); clear hb1 hr1))
     go_roundw
     case rel => exact ⟨k + 1,by go_num,by omega,H3⟩
     case measure => simp [RowKit.intOf]; omega
    ·obtain rfl : k = 10:=by omega
     have HBE : Hid (Below w.heap.size w wr):=Lib.hid HR.out.2
     gi_wp2_with ((with_reducible show wpListIn _ _ _ _ _ (Oper.mk (some 71) _ _ _ _ _ :: _) _ _); go_must (refine wpListIn_runV rfl (.slice (some ⟨wr.heap.size,0,none⟩) 11 11) (wr.alloc (.cells (nmV nmC).toArray 9)) (by kernel_rfl) (by kernel_rfl) ?_))
     obtain ⟨WC,hWC⟩ : ∃ W,W = wr.alloc (.cells (nmV nmC).toArray 9):=⟨_,rfl⟩
     rw [← hWC]
     have HC0 : Hid (Row WC wr.heap.size 9 (nmV nmC) ∧ Below w.heap.size w WC):=Lib.hid (by rw [hWC]; exact ⟨row_new wr (nmV nmC) _,HBE.out.alloc HBE.out.size _⟩)
     clear hWC
     obtain ⟨bC,hbC⟩ : ∃ b,b = wr.heap.size:=⟨_,rfl⟩
     rw [← hbC] at HC0 ⊢
     clear hbC hk hlt
     gi_loopw [6] (fun u wr => ∃ k : Nat,u = .int .i64 (k : Int) ∧ k ≤ 11 ∧ Hid (Row wr bC 9 (nmV nmC) ∧ Below w.heap.size w wr)) (fun u _ => 11 - (RowKit.intOf u).toNat)
     case atStart => exact ⟨0,rfl,by omega,HC0⟩
     case round =>
      obtain ⟨k,rfl,hk,HR⟩:=hrel
      clear HC0
      by_cases hlt : k < 11
      ·have hki : (k : Int) < 11:=by omega
       obtain ⟨s,hs1,hs2,hs3⟩:=nm_small (L:=nmC) (by kernel_rfl) (i:=k) hlt
       have c0 : wr.cell? ⟨bC,k,none⟩ = some (.string (bstr s)):=(HR.out.1.cell k).trans hs3
       have cl:=HR.out.1.lt
       have HS2:=Lib.hid hs2
       have HS3:=Lib.hid hs3
       clear hs1 hs2 hs3
       gi_wp2_with (first
        | (refine ⟨trivial,?_⟩; gi_at_call 6; (with_reducible refine (callsIn_wide.2 (HAL4.out wr HR.out.2 s HS2.out)).mono ?_); rintro e w1 ⟨rfl,hb1⟩; have hr1:=HR.out.1.keep hb1 HR.out.1.lt; have c1 : w1.cell? ⟨bC,k,none⟩ = some (.string (bstr s)):=(hr1.cell k).trans HS3.out; have cl1:=hr1.lt; have H1:=Lib.hid (And.intro hr1 (HR.out.2.trans (hb1.mono HR.out.2.size))); clear hb1 hr1))
       go_roundw
       case rel => exact ⟨k + 1,by go_num,by omega,H1⟩
       case measure => simp [RowKit.intOf]; omega
      ·obtain rfl : k = 11:=by omega
       have HCE : Hid (Below w.heap.size w wr):=Lib.hid HR.out.2
       gi_wp2_with (first
        | (refine ⟨trivial,?_⟩; gi_at_call 7; (with_reducible refine (callsIn_wide.2 (HM1.out wr HCE.out)).mono ?_); rintro e w1 ⟨rfl,hb1⟩; have H1:=Lib.hid (HCE.out.trans (hb1.mono HCE.out.size)); clear hb1)
        | (refine ⟨trivial,?_⟩; gi_at_call 7; (with_reducible refine (callsIn_wide.2 (HM2.out w1 H1.out)).mono ?_); rintro e w2 ⟨rfl,hb2⟩; have H2:=Lib.hid (H1.out.trans (hb2.mono H1.out.size)); clear hb2; obtain ⟨wm,hmk,hrow,hbm⟩:=make257 w2; have HRM : Hid (Row wm w2.heap.size 5 (longV 0)):=Lib.hid hrow; have H3:=Lib.hid (H2.out.trans (hbm.mono H2.out.size)); clear hrow hbm))
       obtain ⟨bL,hbL⟩ : ∃ b,b = w2.heap.size:=⟨_,rfl⟩
       have hbl : w.heap.size ≤ bL:=by rw [hbL]; exact H2.out.size
       rw [← hbL] at HRM ⊢
       clear hbL hmk hk hlt
       gi_loopw [8] (fun u wr => ∃ k : Nat,u = .int .i64 (k : Int) ∧ k ≤ 257 ∧ Hid (Row wr bL 5 (longV k) ∧ Below w.heap.size w wr)) (fun u _ => 257 - (RowKit.intOf u).toNat)
       case atStart => exact ⟨0,rfl,by omega,Lib.hid ⟨HRM.out,H3.out⟩⟩
       case round =>
        obtain ⟨k,rfl,hk,HR⟩:=hrel
        clear HRM H3
        by_cases hlt : k < 257
        ·have hki : (k : Int) < 257:=by omega
         obtain ⟨v,hv⟩:=longV_at k hlt
         have c0 : wr.cell? ⟨bL,k,none⟩ = some v:=(HR.out.1.cell k).trans hv
         have cl:=HR.out.1.lt
         have cf:=HR.out.1.frozen k
         have HNX : Hid (Row (wr.setCell ⟨bL,k,none⟩ (.int .u8 97)) bL 5 (longV (k + 1)) ∧ Below w.heap.size w (wr.setCell ⟨bL,k,none⟩ (.int .u8 97))):=Lib.hid ⟨by have:=HR.out.1.set k (.int .u8 97); rw [longV_set k hlt] at this; exact this,HR.out.2.setCell (p:=⟨bL,k,none⟩) hbl _⟩
         clear hv
         gi_wp2
         go_roundw
         case rel => exact ⟨k + 1,by go_num,by omega,HNX⟩
         case measure => simp [RowKit.intOf]; omega
        ·obtain rfl : k = 257:=by omega
         have cl:=HR.out.1.lt
         have hcv:=longV_conv HR.out.1 257 257 (by omega)
         have HL1 : Hid (Calls Tryz.prog 4 #[.string (bstr (List.replicate 257 (97 : UInt8)))] wr fun e w' => e = .returned (.bool true) ∧ Below wr.heap.size wr w'):=Lib.hid (HCO.out wr HR.out.2 _ (by rw [List.length_replicate]; omega))
         have hnil:=fun lb w => seq_nil8 31 lb w
         clear hk hlt
         obtain ⟨sA,hsA⟩ : ∃ s,bstr (List.replicate 257 (97 : UInt8)) = s:=⟨_,rfl⟩
         obtain ⟨sB,hsB⟩ : ∃ s,bstr (List.replicate 256 (97 : UInt8)) = s:=⟨_,rfl⟩
         rw [hsA] at hcv HL1
         have HSB:=Lib.hid hsB
         clear hsA hsB
         gi_wp2_with (first
          | (refine ⟨trivial,?_⟩; gi_at_call 4; (with_reducible refine (callsIn_wide.2 HL1.out).mono ?_); rintro e w5 ⟨rfl,hb5⟩; have hr5:=HR.out.1.keep hb5 HR.out.1.lt; have cl5:=hr5.lt; have hcv5:=longV_conv hr5 256 257 (by omega); rw [HSB.out] at hcv5; have H5:=Lib.hid (HR.out.2.trans (hb5.mono HR.out.2.size)); have HL2 : Hid (Calls Tryz.prog 4 #[.string sB] w5 fun e w' => e = .returned (.bool true) ∧ Below w5.heap.size w5 w'):=Lib.hid (by rw [← HSB.out]; exact HCO.out w5 H5.out _ (by rw [List.length_replicate]; omega)); clear hb5 hr5)
          | (refine ⟨trivial,?_⟩; gi_at_call 4; (with_reducible refine (callsIn_wide.2 HL2.out).mono ?_); rintro e w6 ⟨rfl,hb6⟩; have H6:=Lib.hid (H5.out.trans (hb6.mono H5.out.size)); clear hb6))
         have HE0 : Hid (Row (w6.alloc (.cells #[.string { data:=#[] },.bool false,.slice none 0 0] 36)) w6.heap.size 36 [.string { data:=#[] },.bool false,.slice none 0 0] ∧ Below w.heap.size w (w6.alloc (.cells #[.string { data:=#[] },.bool false,.slice none 0 0] 36))):=Lib.hid ⟨row_new w6 [.string { data:=#[] },.bool false,.slice none 0 0] _,H6.out.alloc H6.out.size _⟩
         obtain ⟨gE,hgE⟩ : ∃ x,x = w6.heap.size:=⟨_,rfl⟩
         obtain ⟨WE,hWE⟩ : ∃ W,W = w6.alloc (.cells #[.string { data:=#[] },.bool false,.slice none 0 0] 36):=⟨_,rfl⟩
         rw [← hWE,← hgE] at HE0
         rw [← hWE,← hgE]
         clear hWE hgE hcv cl HL1 HSB hbl
         refine wpIn_loop_rounds 3 ?_
         rw [roundsIn_succ]
         have HS1:=Lib.hid (And.intro HE0.out.2 HE0.out.1)
         have HN1 : Hid (∀ W,Below WE.heap.size WE W → NoPat W none ∧ (∀ g : Addr,none = some g → W.cell? ⟨g.block,0,none⟩ = some (.string { data:=#[] }))):=Lib.hid (fun W hb => ⟨.inl rfl,fun g hg => by cases hg⟩)
         gi_wp2_with (first
          | (refine ⟨trivial,?_⟩; gi_at_call 8; refine (callsIn_wide.2 (matchN _ _ _ _ (HN1.out WE (Below.refl _ _)).1)).mono ?_; rintro e wa1 ⟨rfl,hb⟩; have Ba1:=Lib.hid hb; clear hb)
          | (refine ⟨trivial,?_⟩; gi_at_call 9; refine (callsIn_wide.2 (findN _ _ _ _ (HN1.out wa1 Ba1.out).1)).mono ?_; rintro e wb1 ⟨rfl,hb⟩; have hb2:=Ba1.out.trans (hb.mono Ba1.out.size); have Bb1 : Hid (Below WE.heap.size WE (wb1.alloc (.cells #[.int .i64 0,.int .i64 0] 40))):=Lib.hid (hb2.alloc hb2.size _); have RX1 : Hid (Row (wb1.alloc (.cells #[.int .i64 0,.int .i64 0] 40)) wb1.heap.size 40 [.int .i64 0,.int .i64 0]):=Lib.hid (row_new wb1 [.int .i64 0,.int .i64 0] _); clear hb hb2)
          | (refine ⟨trivial,?_⟩; gi_at_call 10; refine (callsIn_wide.2 (lastN _ _ _ _ (HN1.out (wb1.alloc (.cells #[.int .i64 0,.int .i64 0] 40)) Bb1.out).1)).mono ?_; rintro e wc1 ⟨rfl,hb⟩; have hb2:=Bb1.out.trans (hb.mono Bb1.out.size); have Bc1 : Hid (Below WE.heap.size WE ((wc1.alloc (.cells #[.int .i64 0,.int .i64 0] 40)).alloc (.cells #[.int .i64 0] 3))):=Lib.hid ((hb2.alloc hb2.size _).alloc (by have:=hb2.size; simp; omega) _); have RX1 : Hid (Row ((wc1.alloc (.cells #[.int .i64 0,.int .i64 0] 40)).alloc (.cells #[.int .i64 0] 3)) wb1.heap.size 40 [.int .i64 0,.int .i64 0]):=Lib.hid (((RX1.out.keep hb RX1.out.lt).alloc _).alloc _); have RY1 : Hid (Row ((wc1.alloc (.cells #[.int .i64 0,.int .i64 0] 40)).alloc (.cells #[.int .i64 0] 3)) wc1.heap.size 40 [.int .i64 0,.int .i64 0]):=Lib.hid ((row_new wc1 [.int .i64 0,.int .i64 0] _).alloc _); have RN1 : Hid (Row ((wc1.alloc (.cells #[.int .i64 0,.int .i64 0] 40)).alloc (.cells #[.int .i64 0] 3)) (wc1.alloc (.cells #[.int .i64 0,.int .i64 0] 40)).heap.size 3 [.int .i64 0]):=Lib.hid (row_new (wc1.alloc (.cells #[.int .i64 0,.int .i64 0] 40)) [.int .i64 0] _); clear hb hb2)
          | (refine ⟨trivial,?_⟩; gi_at_call 11; refine (callsIn_wide.2 (allPC _ _ _)).mono ?_; rintro e wd1 ⟨rfl,hwd⟩; have HWD1:=Lib.hid hwd; clear hwd))
         have hwdb : Below WE.heap.size WE wd1:=by have h:=HWD1.out; rw [← h]; exact (Bc1.out.alloc Bc1.out.size _).alloc (by have:=Bc1.out.size; simp at this ⊢; omega) _
         have hzd : wd1.heap.size = wc1.heap.size + 1 + 1 + 1 + 1:=by rw [← HWD1.out]; simp
         have rx : Row wd1 wb1.heap.size 40 [.int .i64 0,.int .i64 0]:=by rw [← HWD1.out]; exact (RX1.out.alloc _).alloc _
         have ry : Row wd1 wc1.heap.size 40 [.int .i64 0,.int .i64 0]:=by rw [← HWD1.out]; exact (RY1.out.alloc _).alloc _
         have rn : Row wd1 (wc1.heap.size + 1) 3 [.int .i64 0]:=by rw [← HWD1.out]; have:=(RN1.out.alloc (.cells #[.pointer none] 33)).alloc (.cells #[.string { data:=#[97] }] 9); rw [World.size_alloc] at this; exact this
         have rp : Row wd1 (wc1.heap.size + 1 + 1) 33 [.pointer none]:=by rw [← HWD1.out]; have:=(row_new ((wc1.alloc (.cells #[.int .i64 0,.int .i64 0] 40)).alloc (.cells #[.int .i64 0] 3)) [.pointer none] 33).alloc (.cells #[.string { data:=#[97] }] 9); rw [World.size_alloc,World.size_alloc] at this; exact this
         have hst : Stays (fun r => r < wd1.heap.size) wd1 (NoAl (wc1.heap.size + 1 + 1) none):=fun W h1 h2 => ⟨.inl rfl,row_rows rp (h1 _ rp.lt)⟩
         have HSQ:=Lib.hid (fun m hm => allN1 m hm (fun r => r < wd1.heap.size) wd1 (wc1.heap.size + 1 + 1) (wc1.heap.size + 1 + 1 + 1) none [] hst)
         have HHE:=Lib.hid (enters_of Tryz.func31 (by kernel_rfl) rfl)
         have RX1:=Lib.hid rx
         have RY1:=Lib.hid ry
         have RN1:=Lib.hid rn
         have HBD1:=Lib.hid hwdb
         clear rx ry rn rp hst hwdb hzd
         refine wpIn_rangeFunc_0 rfl (by decide) (gf:=31) (lb:=#[.pointer (some ⟨wc1.heap.size + 1 + 1,0,none⟩),.pointer (some ⟨wc1.heap.size + 1 + 1 + 1,0,none⟩)]) rfl trivial HHE.out (HSQ.out 39 (by decide)) (fun r hr => ⟨hr,rfl⟩) (Nat.le_refl _) (fun _ => rfl) ?assign ?done
         case assign =>
          intro l' a' W Kc hK
          gi_wp2
          exact hK
         case done =>
          intro D1 Wx hD hb hd
          have hbx:=HBD1.out.trans (hb.mono HBD1.out.size)
          have rx:=RX1.out.keep hb RX1.out.lt
          have ry:=RY1.out.keep hb RY1.out.lt
          have rn:=RN1.out.keep hb RN1.out.lt
          have x0:=rx.cell 0
          have x1:=rx.cell 1
          have x2:=rx.lt
          have y0:=ry.cell 0
          have y1:=ry.cell 1
          have y2:=ry.lt
          have n0:=rn.cell 0
          have n1:=rn.lt
          have HTX:=Lib.hid (textN Wx none (HN1.out Wx hbx).1 (HN1.out Wx hbx).2)
          have HBX:=Lib.hid hbx
          have HDX:=Lib.hid hd
          have HDZ : Hid (wd1.heap.size ≤ D1):=Lib.hid hD
          clear rx ry rn hbx hb hd hD
          gi_wp2_with (refine ⟨trivial,?_⟩; gi_at_call 12; refine (callsIn_wide.2 HTX.out).mono ?_; rintro e wt1 ⟨rfl,hb⟩; have HBT:=Lib.hid hb; clear hb)
          have HS2 : Hid (Below w.heap.size w wt1 ∧ Row wt1 gE 36 [.string { data:=#[] },.bool false,.slice none 0 0]):=Lib.hid (by
           have h1 : Below WE.heap.size WE wt1:=HBX.out.trans (HBT.out.mono HBX.out.size)
           exact ⟨HS1.out.1.trans (h1.mono HS1.out.1.size),HS1.out.2.keep h1 HS1.out.2.lt⟩)
          have DH1_1 : Hid (wt1.heap[D1]? = some (.deferred (some []))):=Lib.hid ((HBT.out.block D1 (Array.getElem?_eq_some_iff.1 HDX.out).1).trans HDX.out)
          have DB1 : Hid (w.heap.size ≤ D1):=Lib.hid (by have h1:=HDZ.out; have h2:=HBD1.out.size; have h3:=HS1.out.1.size; omega)
          clear HTX HBX HDX HDZ HBT x0 x1 x2 y0 y1 y2 n0 n1 HSQ HHE
          rw [roundsIn_succ]
          have HN2 : Hid (∀ W,Below wt1.heap.size wt1 W → NoPat W (some ⟨gE,0,none⟩) ∧ (∀ g : Addr,(some ⟨gE,0,none⟩) = some g → W.cell? ⟨g.block,0,none⟩ = some (.string { data:=#[] }))):=Lib.hid (fun W hb => ⟨.inr ⟨gE,_,_,rfl,(HS2.out.2.keep hb HS2.out.2.lt)⟩,fun g hg => (by cases hg; exact (HS2.out.2.keep hb HS2.out.2.lt).cell 0)⟩)
          gi_wp2_with (first
           | (refine ⟨trivial,?_⟩; gi_at_call 8; refine (callsIn_wide.2 (matchN _ _ _ _ (HN2.out wt1 (Below.refl _ _)).1)).mono ?_; rintro e wa2 ⟨rfl,hb⟩; have Ba2:=Lib.hid hb; clear hb)
           | (refine ⟨trivial,?_⟩; gi_at_call 9; refine (callsIn_wide.2 (findN _ _ _ _ (HN2.out wa2 Ba2.out).1)).mono ?_; rintro e wb2 ⟨rfl,hb⟩; have hb2:=Ba2.out.trans (hb.mono Ba2.out.size); have Bb2 : Hid (Below wt1.heap.size wt1 (wb2.alloc (.cells #[.int .i64 0,.int .i64 0] 40))):=Lib.hid (hb2.alloc hb2.size _); have RX2 : Hid (Row (wb2.alloc (.cells #[.int .i64 0,.int .i64 0] 40)) wb2.heap.size 40 [.int .i64 0,.int .i64 0]):=Lib.hid (row_new wb2 [.int .i64 0,.int .i64 0] _); clear hb hb2)
           | (refine ⟨trivial,?_⟩; gi_at_call 10; refine (callsIn_wide.2 (lastN _ _ _ _ (HN2.out (wb2.alloc (.cells #[.int .i64 0,.int .i64 0] 40)) Bb2.out).1)).mono ?_; rintro e wc2 ⟨rfl,hb⟩; have hb2:=Bb2.out.trans (hb.mono Bb2.out.size); have Bc2 : Hid (Below wt1.heap.size wt1 ((wc2.alloc (.cells #[.int .i64 0,.int .i64 0] 40)).alloc (.cells #[.int .i64 0] 3))):=Lib.hid ((hb2.alloc hb2.size _).alloc (by have:=hb2.size; simp; omega) _); have RX2 : Hid (Row ((wc2.alloc (.cells #[.int .i64 0,.int .i64 0] 40)).alloc (.cells #[.int .i64 0] 3)) wb2.heap.size 40 [.int .i64 0,.int .i64 0]):=Lib.hid (((RX2.out.keep hb RX2.out.lt).alloc _).alloc _); have RY2 : Hid (Row ((wc2.alloc (.cells #[.int .i64 0,.int .i64 0] 40)).alloc (.cells #[.int .i64 0] 3)) wc2.heap.size 40 [.int .i64 0,.int .i64 0]):=Lib.hid ((row_new wc2 [.int .i64 0,.int .i64 0] _).alloc _); have RN2 : Hid (Row ((wc2.alloc (.cells #[.int .i64 0,.int .i64 0] 40)).alloc (.cells #[.int .i64 0] 3)) (wc2.alloc (.cells #[.int .i64 0,.int .i64 0] 40)).heap.size 3 [.int .i64 0]):=Lib.hid (row_new (wc2.alloc (.cells #[.int .i64 0,.int .i64 0] 40)) [.int .i64 0] _); clear hb hb2)
           | (refine ⟨trivial,?_⟩; gi_at_call 11; refine (callsIn_wide.2 (allPC _ _ _)).mono ?_; rintro e wd2 ⟨rfl,hwd⟩; have HWD2:=Lib.hid hwd; clear hwd))
          have hwdb : Below wt1.heap.size wt1 wd2:=by have h:=HWD2.out; rw [← h]; exact (Bc2.out.alloc Bc2.out.size _).alloc (by have:=Bc2.out.size; simp at this ⊢; omega) _
          have hzd : wd2.heap.size = wc2.heap.size + 1 + 1 + 1 + 1:=by rw [← HWD2.out]; simp
          have rx : Row wd2 wb2.heap.size 40 [.int .i64 0,.int .i64 0]:=by rw [← HWD2.out]; exact (RX2.out.alloc _).alloc _
          have ry : Row wd2 wc2.heap.size 40 [.int .i64 0,.int .i64 0]:=by rw [← HWD2.out]; exact (RY2.out.alloc _).alloc _
          have rn : Row wd2 (wc2.heap.size + 1) 3 [.int .i64 0]:=by rw [← HWD2.out]; have:=(RN2.out.alloc (.cells #[.pointer (some ⟨gE,0,none⟩)] 33)).alloc (.cells #[.string { data:=#[97] }] 9); rw [World.size_alloc] at this; exact this
          have rp : Row wd2 (wc2.heap.size + 1 + 1) 33 [.pointer (some ⟨gE,0,none⟩)]:=by rw [← HWD2.out]; have:=(row_new ((wc2.alloc (.cells #[.int .i64 0,.int .i64 0] 40)).alloc (.cells #[.int .i64 0] 3)) [.pointer (some ⟨gE,0,none⟩)] 33).alloc (.cells #[.string { data:=#[97] }] 9); rw [World.size_alloc,World.size_alloc] at this; exact this
          have hst : Stays (fun r => r < wd2.heap.size) wd2 (NoAl (wc2.heap.size + 1 + 1) (some ⟨gE,0,none⟩)):=fun W h1 h2 => ⟨.inr ⟨gE,_,_,rfl,row_rows (HS2.out.2.keep hwdb HS2.out.2.lt) (h1 _ (HS2.out.2.keep hwdb HS2.out.2.lt).lt)⟩,row_rows rp (h1 _ rp.lt)⟩
          have HSQ:=Lib.hid (fun m hm => allN1 m hm (fun r => r < wd2.heap.size) wd2 (wc2.heap.size + 1 + 1) (wc2.heap.size + 1 + 1 + 1) (some ⟨gE,0,none⟩) [] hst)
          have HHE:=Lib.hid (enters_of Tryz.func31 (by kernel_rfl) rfl)
          have RX2:=Lib.hid rx
          have RY2:=Lib.hid ry
          have RN2:=Lib.hid rn
          have HBD2:=Lib.hid hwdb
          have DW1_2 : Hid (wd2.heap[D1]? = some (.deferred (some []))):=Lib.hid ((hwdb.block D1 (Array.getElem?_eq_some_iff.1 DH1_1.out).1).trans DH1_1.out)
          clear rx ry rn rp hst hwdb hzd
          refine wpIn_rangeFunc_0 rfl (by decide) (gf:=31) (lb:=#[.pointer (some ⟨wc2.heap.size + 1 + 1,0,none⟩),.pointer (some ⟨wc2.heap.size + 1 + 1 + 1,0,none⟩)]) rfl trivial HHE.out (HSQ.out 39 (by decide)) (fun r hr => ⟨hr,rfl⟩) (Nat.le_refl _) (fun _ => rfl) ?assign ?done
          case assign =>
           intro l' a' W Kc hK
           gi_wp2
           exact hK
          case done =>
           intro D2 Wx hD hb hd
           have hbx:=HBD2.out.trans (hb.mono HBD2.out.size)
           have rx:=RX2.out.keep hb RX2.out.lt
           have ry:=RY2.out.keep hb RY2.out.lt
           have rn:=RN2.out.keep hb RN2.out.lt
           have x0:=rx.cell 0
           have x1:=rx.cell 1
           have x2:=rx.lt
           have y0:=ry.cell 0
           have y1:=ry.cell 1
           have y2:=ry.lt
           have n0:=rn.cell 0
           have n1:=rn.lt
           have HTX:=Lib.hid (textN Wx (some ⟨gE,0,none⟩) (HN2.out Wx hbx).1 (HN2.out Wx hbx).2)
           have HBX:=Lib.hid hbx
           have HDX:=Lib.hid hd
           have HDZ : Hid (wd2.heap.size ≤ D2):=Lib.hid hD
           have DX1_2 : Hid (Wx.heap[D1]? = some (.deferred (some []))):=Lib.hid ((hb.block D1 (Array.getElem?_eq_some_iff.1 DW1_2.out).1).trans DW1_2.out)
           clear rx ry rn hbx hb hd hD
           gi_wp2_with (refine ⟨trivial,?_⟩; gi_at_call 12; refine (callsIn_wide.2 HTX.out).mono ?_; rintro e wt2 ⟨rfl,hb⟩; have HBT:=Lib.hid hb; clear hb)
           have HS3 : Hid (Below w.heap.size w wt2 ∧ Row wt2 gE 36 [.string { data:=#[] },.bool false,.slice none 0 0]):=Lib.hid (by
            have h1 : Below wt1.heap.size wt1 wt2:=HBX.out.trans (HBT.out.mono HBX.out.size)
            exact ⟨HS2.out.1.trans (h1.mono HS2.out.1.size),HS2.out.2.keep h1 HS2.out.2.lt⟩)
           have DH2_2 : Hid (wt2.heap[D2]? = some (.deferred (some []))):=Lib.hid ((HBT.out.block D2 (Array.getElem?_eq_some_iff.1 HDX.out).1).trans HDX.out)
           have DH1_2 : Hid (wt2.heap[D1]? = some (.deferred (some []))):=Lib.hid ((HBT.out.block D1 (Array.getElem?_eq_some_iff.1 DX1_2.out).1).trans DX1_2.out)
           have DN : Hid (D1 < D2):=Lib.hid (by have h1:=(Array.getElem?_eq_some_iff.1 DW1_2.out).1; have h2:=HDZ.out; omega)
           clear HTX HBX HDX HDZ HBT x0 x1 x2 y0 y1 y2 n0 n1 HSQ HHE
           rw [roundsIn_succ]
           have HWK:=Lib.hid (worksC wt2 (HT.out.next HS3.out.1))
           gi_wp2_with (refine ⟨trivial,?_⟩; gi_at_call 13; refine (callsIn_wide.2 HWK.out).mono ?_; rintro e w9 ⟨rfl,hb⟩; have HB9:=Lib.hid hb; clear hb)
           have e1 : w9.heap[D1]? = some (.deferred (some [])):=(HB9.out.block D1 (Array.getElem?_eq_some_iff.1 DH1_2.out).1).trans DH1_2.out
           have e2 : w9.heap[D2]? = some (.deferred (some [])):=(HB9.out.block D2 (Array.getElem?_eq_some_iff.1 DH2_2.out).1).trans DH2_2.out
           have b9 : Below w.heap.size w w9:=HS3.out.1.trans (HB9.out.mono HS3.out.1.size)
           have hdb:=DB1.out
           have hdn:=DN.out
           have l1:=(Array.getElem?_eq_some_iff.1 e1).1
           have HF:=Lib.hid (And.intro e1 (And.intro e2 b9))
           clear e1 e2 b9
           change LeavesInM Fence.wide 40 Tryz.prog _ _ _ [{ target:=.collected D2,args:=#[] }, { target:=.collected D1,args:=#[] }] .returning w9
           refine ⟨by simp,.inl ⟨_,_,rfl,run_takeDeferred HF.out.2.1,?_⟩⟩
           refine ⟨by simp,.inl ⟨_,_,rfl,run_takeDeferred ((World.putObj_heap_other (by omega)).trans HF.out.1),?_⟩⟩
           refine ⟨_,results_tmp rfl _ _ _,rfl,?_⟩
           exact (HF.out.2.2.grown (grownBy_putObj' _ D2 _) HF.out.2.2.size (fun r e => by cases e; omega)).grown (grownBy_putObj' _ D1 _) (by have:=HF.out.2.2.size; simp; omega) (fun r e => by cases e; omega)
end Go.Proofs.YtchdeboialbdiaaGreatDoor
