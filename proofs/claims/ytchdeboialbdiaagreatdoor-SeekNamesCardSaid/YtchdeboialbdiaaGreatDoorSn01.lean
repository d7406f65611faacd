/- Texts joined, one behind the other (Base, Mem, GenA). -/
import Derived.Test.YtchdeboialbdiaaGreatDoorSqz
import Derived.Test.YtchdeboialbdiaaGreatDoorProg
import Derived.WalkKit
import Derived.WalkSpells
import Derived.WalkLawsBesides
import Derived.Lib.Hide
import Derived.Outline
import Derived.Handy
import Derived.BigQuiet
import Derived.Deep.QuietTactic
import Derived.Laws.CopyOwn
import Derived.Laws.BitsAllLaws
import Derived.Lib.SliceRun
import Derived.Stop.BytesEq
import Derived.Laws.BytesString
import Derived.Laws.Rows
import Derived.Laws.Cover3
import Derived.Lib.AppendZeros
import Derived.Lib.OthersKept
import Derived.OwnWalk
namespace Go.Proofs.YtchdeboialbdiaaGreatDoor
set_option linter.unusedVariables false
set_option linter.unusedSimpArgs false
set_option maxHeartbeats 8000000
set_option maxRecDepth 100000
open Go.RowKit
def Reads (w : World) (a : Option Addr) (n : Nat) (xs : List Value) : Prop :=
 xs.length = n ∧ (0 < n → ∃ b off,a = some ⟨b,off,none⟩ ∧ b < w.heap.size ∧ ∀ j,j < n → w.cell? ⟨b,off + j,none⟩ = xs[j]?)
theorem Reads.len {w : World} {a : Option Addr} {n : Nat} {xs : List Value} (h : Reads w a n xs) : xs.length = n:=h.1
theorem Reads.at {w : World} {a : Option Addr} {n : Nat} {xs : List Value} (h : Reads w a n xs) {k : Nat} (hk : k < n) :
  ∃ b off x,a = some ⟨b,off,none⟩ ∧ b < w.heap.size ∧ xs[k]? = some x ∧ w.cell? ⟨b,off + k,none⟩ = some x:=by
 obtain ⟨hl,h⟩:=h
 obtain ⟨b,off,ha,hb,hc⟩:=h (by omega)
 exact ⟨b,off,xs[k],ha,hb,by simp,by rw [hc k hk]; simp⟩
theorem Reads.keep {B : Nat} {w w' : World} {a : Option Addr} {n : Nat} {xs : List Value} (h : Reads w a n xs) (hb : Below B w w') (hB : w.heap.size ≤ B) : Reads w' a n xs:=by
 obtain ⟨hl,h⟩:=h
 refine ⟨hl,fun hn => ?_⟩
 obtain ⟨b,off,ha,hlt,hc⟩:=h hn
 exact ⟨b,off,ha,Nat.lt_of_lt_of_le hlt hb.size,fun j hj => by rw [hb.cell (p:=⟨b,off + j,none⟩) (Nat.lt_of_lt_of_le hlt hB)]; exact hc j hj⟩
theorem Reads.nil (w : World) (a : Option Addr) : Reads w a 0 []:=⟨rfl,fun h => absurd h (by omega)⟩
abbrev B8 (x : UInt8) : Value:=.int .u8 (x.toNat : Int)
def SliceOf (w : World) (v : Value) (l : List UInt8) : Prop:=∃ a c,v = .slice a l.length c ∧ Reads w a l.length (l.map B8) ∧ l.length ≤ c ∧ c ≤ maxLen
theorem SliceOf.keep {B : Nat} {w w' : World} {v : Value} {l : List UInt8} (h : SliceOf w v l) (hb : Below B w w') (hB : w.heap.size ≤ B) : SliceOf w' v l:=by
 obtain ⟨a,c,hv,hr,h1,h2⟩:=h
 exact ⟨a,c,hv,hr.keep hb hB,h1,h2⟩
def ReadsRows (w : World) (a : Option Addr) (n : Nat) (ll : List (List UInt8)) : Prop :=
 ∃ vs : List Value,Reads w a n vs ∧ ll.length = n ∧ ∀ (i : Nat) (v : Value) (l : List UInt8),vs[i]? = some v → ll[i]? = some l → SliceOf w v l
theorem ReadsRows.len {w : World} {a : Option Addr} {n : Nat} {ll : List (List UInt8)} (h : ReadsRows w a n ll) : ll.length = n:=by
 obtain ⟨_,_,h,_⟩:=h
 exact h
theorem ReadsRows.keep {B : Nat} {w w' : World} {a : Option Addr} {n : Nat} {ll : List (List UInt8)} (h : ReadsRows w a n ll) (hb : Below B w w') (hB : w.heap.size ≤ B) : ReadsRows w' a n ll:=by
 obtain ⟨vs,hr,hl,h⟩:=h
 exact ⟨vs,hr.keep hb hB,hl,fun i v l h1 h2 => (h i v l h1 h2).keep hb hB⟩
theorem ReadsRows.at {w : World} {a : Option Addr} {n : Nat} {ll : List (List UInt8)} (h : ReadsRows w a n ll) {k : Nat} (hk : k < n) :
  ∃ b off a' l c',a = some ⟨b,off,none⟩ ∧ b < w.heap.size ∧ ll[k]? = some l ∧ w.cell? ⟨b,off + k,none⟩ = some (.slice a' l.length c') ∧ Reads w a' l.length (l.map B8) ∧ l.length ≤ c' ∧ c' ≤ maxLen:=by
 obtain ⟨vs,hr,hl,h⟩:=h
 obtain ⟨b,off,x,ha,hb,hx,hc⟩:=hr.at hk
 have hlk : ll[k]? = some ll[k]:=by simp
 obtain ⟨a',c',hv,hr',h1,h2⟩:=h k x _ hx hlk
 subst hv
 exact ⟨b,off,a',_,c',ha,hb,hlk,hc,hr',h1,h2⟩
theorem own_mono {w : World} {b b' : Nat} {e : TypeId} {size : Nat} {v : Value} {n : Nat} {xs : List Value} (h : w.ownsRow b e size v n xs) (hb : b' ≤ b) : w.ownsRow b' e size v n xs:=by
 refine ⟨h.1,?_⟩
 rcases h.2 with h2 | ⟨g,cap,cur,hv,hg,r⟩
 ·exact .inl h2
 ·exact .inr ⟨g,cap,cur,hv,by omega,r⟩
theorem own_mono_size {w : World} {b b' : Nat} {e : TypeId} {size : Nat} {v : Value} {n : Nat} {xs : List Value} (h : w.ownsRow b e size v n xs) (hb : b' ≤ b) : w.ownsRow b' e size v n xs:=own_mono h hb
def Row (w : World) (g : Nat) (e : TypeId) (xs : List Value) : Prop:=w.heap[g]? = some (.cells xs.toArray e (0,0))
theorem Row.out {w : World} {g : Nat} {e : TypeId} {xs : List Value} (h : Row w g e xs) : w.heap[g]? = some (.cells xs.toArray e (0,0)):=h
theorem Row.cell {w : World} {g : Nat} {e : TypeId} {xs : List Value} (h : Row w g e xs) (k : Nat) : w.cell? ⟨g,k,none⟩ = xs[k]?:=by
 unfold Row at h
 simp [World.cell?,h]
theorem Row.frozen {w : World} {g : Nat} {e : TypeId} {xs : List Value} (h : Row w g e xs) (k : Nat) : w.frozen? ⟨g,k,none⟩ = false:=by
 unfold Row at h
 simp [World.frozen?,h]
theorem Row.lt {w : World} {g : Nat} {e : TypeId} {xs : List Value} (h : Row w g e xs) : g < w.heap.size:=(Array.getElem?_eq_some_iff.1 h).1
theorem Row.set {w : World} {g : Nat} {e : TypeId} {xs : List Value} (h : Row w g e xs) (k : Nat) (v : Value) : Row (w.setCell ⟨g,k,none⟩ v) g e (xs.set k v):=by
 unfold Row at h ⊢
 simp [World.setCell,Array.getElem?_modify,h]
theorem Row.other {w : World} {g : Nat} {e : TypeId} {xs : List Value} (h : Row w g e xs) {p : Addr} (hp : p.block ≠ g) (v : Value) : Row (w.setCell p v) g e xs:=by
 unfold Row at h ⊢
 rw [Below.heap_setCell _ _ _ _ (Ne.symm hp)]; exact h
theorem Row.keep {B : Nat} {w w' : World} {g : Nat} {e : TypeId} {xs : List Value} (h : Row w g e xs) (hb : Below B w w') (hB : g < B) : Row w' g e xs:=by
 unfold Row at h ⊢
 rw [hb.block g hB]; exact h
theorem Row.alloc {w : World} {g : Nat} {e : TypeId} {xs : List Value} (h : Row w g e xs) (o : Obj) : Row (w.alloc o) g e xs:=h.keep ((Below.refl _ w).alloc (Nat.le_refl _) o) h.lt
theorem row_new (w : World) (xs : List Value) (e : TypeId) : Row (w.alloc (.cells xs.toArray e)) w.heap.size e xs:=heap_alloc_new w _
theorem Row.reads {w : World} {g : Nat} {e : TypeId} {xs : List Value} (h : Row w g e xs) (o n : Nat) (hn : o + n ≤ xs.length) : Reads w (some ⟨g,o,none⟩) n ((xs.drop o).take n):=by
 refine ⟨by simp; omega,fun _ => ⟨g,o,rfl,h.lt,fun j hj => ?_⟩⟩
 rw [h.cell,List.getElem?_take,if_pos hj,List.getElem?_drop]
theorem cell_add {w : World} {b o j : Nat} : w.cell? ((⟨b,o,none⟩ : Addr).add j) = w.cell? ⟨b,o + j,none⟩:=by
 unfold Addr.add; split <;> simp_all
theorem Reads.src {w : World} {a : Option Addr} {n : Nat} {xs : List Value} (h : Reads w a n xs) (hn : 0 < n) : ∃ ad,a = some ad ∧ ∀ j v,xs[j]? = some v → w.cell? (ad.add j) = some v:=by
 obtain ⟨hl,h⟩:=h
 obtain ⟨b,o,rfl,_,hc⟩:=h hn
 refine ⟨_,rfl,fun j v hv => ?_⟩
 rw [cell_add,hc j (by rw [← hl]; exact (List.getElem?_eq_some_iff.1 hv).1),hv]
def Quiet (w w' : World) : Prop:=∃ m,w' = w.drewN m
theorem Quiet.refl (w : World) : Quiet w w:=⟨0,rfl⟩
theorem Quiet.drewN {w w' : World} (h : Quiet w w') (n : Nat) : Quiet w (w'.drewN n):=by
 obtain ⟨m,rfl⟩:=h
 exact ⟨m + n,by rw [World.drewN_drewN]⟩
theorem Quiet.trans {w w' w'' : World} (h : Quiet w w') (h' : Quiet w' w'') : Quiet w w'':=by
 obtain ⟨n,rfl⟩:=h'
 exact h.drewN n
theorem Quiet.below {w w' : World} (h : Quiet w w') (B : Nat) : Below B w w':=by
 obtain ⟨m,rfl⟩:=h
 exact below_drewN (Below.refl _ _) m
theorem Quiet.heap {w w' : World} (h : Quiet w w') : w'.heap = w.heap:=by
 obtain ⟨m,rfl⟩:=h
 rfl
theorem Reads.quiet {w w' : World} {a : Option Addr} {n : Nat} {xs : List Value} (h : Reads w a n xs) (hq : Quiet w w') : Reads w' a n xs:=h.keep (hq.below w.heap.size) (Nat.le_refl _)
theorem Reads.drewN {w : World} {a : Option Addr} {n : Nat} {xs : List Value} (h : Reads w a n xs) (m : Nat) : Reads (w.drewN m) a n xs:=h.quiet ⟨m,rfl⟩
def bstr (l : List UInt8) : ByteArray:=⟨l.toArray⟩
@[go_sem,simp] theorem bstr_size (l : List UInt8) : (bstr l).size = l.length:=by simp [bstr,ByteArray.size]
@[go_sem,simp] theorem bstr_append (a b : List UInt8) : bstr a ++ bstr b = bstr (a ++ b):=by
 apply ByteArray.ext
 simp [bstr,ByteArray.data_append]
@[go_sem,simp] theorem bstr_extract (l : List UInt8) (i j : Nat) : (bstr l).extract i j = bstr ((l.drop i).take (j - i)):=by
 apply ByteArray.ext
 simp [bstr,ByteArray.data_extract,List.drop_take]
@[simp] theorem bstr_list (l : List UInt8) : (bstr l).data.toList = l:=rfl
theorem bstr_empty : bstr [] = ByteArray.empty:=rfl
theorem run_bytes_str {P : Program} (w : World) (src dst e : TypeId) (hs : P.underlying src = some (.slice e)) (he : P.underlying e = some (.int .u8)) (hd : P.underlying dst = some .string)
  (a : Option Addr) (n c : Nat) (l : List UInt8) (ha : Reads w a n (l.map B8)) : (convert src dst (.slice a n c)).run P w = .ok (.string (bstr l)) w:=by
 rw [run_convert_bytes_string w src dst e a n c hs he hd]
 have hl:=ha.len
 rw [List.length_map] at hl
 have hfold : ∀ (l : List UInt8) (s : ByteArray),(l.map fun x => (x.toNat : Int)).foldl (fun (r : ByteArray) (n : Int) => r.push (UInt8.ofNat n.toNat)) s = ⟨(s.data.toList ++ l).toArray⟩:=by
  intro l
  induction l with
  | nil => intro s; simp
  | cons x l ih =>
   intro s
   rw [List.map_cons,List.foldl_cons,ih]
   simp
 cases a with
 | none =>
  have h0 : n = 0:=by
   rcases Nat.eq_zero_or_pos n with h | h
   ·exact h
   ·obtain ⟨b,o,e,_⟩:=ha.2 h
    cases e
  obtain rfl : l = []:=List.eq_nil_of_length_eq_zero (by omega)
  simp [Conv.bytesToString,bstr_empty]
 | some ad =>
  have hc : (loadCells ad n).run P w = .ok ((l.map fun x => (x.toNat : Int)).map (Value.int .u8)).toArray w:=by
   rw [List.map_map,← hl]
   have h1:=run_loadCells_list (P:=P) w ad (l.map B8) (fun j v hv => by
    have hj : 0 < n:=by
     have:=(List.getElem?_eq_some_iff.1 hv).1
     rw [List.length_map] at this
     omega
    obtain ⟨ad',e,h⟩:=ha.src hj
    cases e
    exact h j v hv)
   rw [List.length_map] at h1
   exact h1
  rw [run_bytesToString w ad n c _ hc,hfold]
  rfl
theorem grownBy_trans {w w1 w2 : World} {r : Option Nat} (h : w.grownBy w1 r) (k : w1.grownBy w2 r) : w.grownBy w2 r :=
 ⟨k.os.trans h.os,k.tape.trans h.tape,k.output.trans h.output,Nat.le_trans h.size k.size,fun i hi hn => (k.block i (Nat.lt_of_lt_of_le hi h.size) hn).trans (h.block i hi hn)⟩
theorem grownBy_below {w w' : World} (h : Below w.heap.size w w') (r : Option Nat) : w.grownBy w' r:=⟨h.os,h.tape,h.output,h.size,fun k hk _ => h.block k hk⟩
theorem below_grownBy {w w' : World} {g B : Nat} (h : w.grownBy w' (some g)) (hB : B ≤ g) (hB2 : B ≤ w.heap.size) : Below B w w' :=
 ⟨h.os,h.tape,h.output,h.size,fun k hk => h.block k (by omega) (fun e => by cases e; omega)⟩
theorem Row.apart {w w' : World} {g k : Nat} {e : TypeId} {xs : List Value} (h : Row w k e xs) (hg : w.grownBy w' (some g)) (hk : k ≠ g) : Row w' k e xs:=by
 have hl:=h.lt
 unfold Row at h ⊢
 rw [hg.block k hl (fun e => hk (by cases e; rfl))]
 exact h
theorem Reads.apart {w w' : World} {g : Nat} {a : Option Addr} {n : Nat} {xs : List Value} (h : Reads w a n xs) (hg : w.grownBy w' (some g)) (hk : ∀ ad,a = some ad → ad.block ≠ g) : Reads w' a n xs:=by
 obtain ⟨hl,h⟩:=h
 refine ⟨hl,fun hn => ?_⟩
 obtain ⟨b,off,ha,hlt,hc⟩:=h hn
 refine ⟨b,off,ha,Nat.lt_of_lt_of_le hlt hg.size,fun j hj => ?_⟩
 rw [World.cell?_of_block (w:=w) (hg.block b hlt (fun e => hk _ ha (by cases e; rfl)))]
 exact hc j hj
theorem wpList_run {P : Program} {w : World} {ops : Array Oper} {rest : List Oper} {o : Oper} {a : Act} {Q : Exit → Act → World → Prop} (hgd : o.guard = none) (v : Value) (w' : World) (hrun : (execOp a.eval o).run P w = .ok (.value v) w')
  (h : wpList P ops Q rest (a.put o.dst v) w') : wpList P ops Q (o :: rest) a w :=
 wpList_plain hgd fun K hK => by
  unfold Oper.wp
  rw [hrun]
  exact hK _ _ h
theorem Reads.sub {w : World} {b o n : Nat} {xs : List Value} (h : Reads w (some ⟨b,o,none⟩) n xs) (f k : Nat) (hk : f + k ≤ n) : Reads w (some ⟨b,o + f,none⟩) k ((xs.drop f).take k):=by
 obtain ⟨hl,h⟩:=h
 refine ⟨by rw [List.length_take,List.length_drop]; omega,fun hk0 => ?_⟩
 obtain ⟨b',o',e,hb,hc⟩:=h (by omega)
 cases e
 refine ⟨b,o + f,rfl,hb,fun j hj => ?_⟩
 rw [Nat.add_assoc,hc (f + j) (by omega),List.getElem?_take,if_pos hj,List.getElem?_drop]
end Go.Proofs.YtchdeboialbdiaaGreatDoor
namespace Go.Proofs.YtchdeboialbdiaaGreatDoor
set_option linter.unusedVariables false
set_option linter.unusedSimpArgs false
set_option maxHeartbeats 8000000
set_option maxRecDepth 100000
open Go.RowKit
open Go.Lib
theorem alloc_last (w : World) (o : Obj) : (w.alloc o).heap[w.heap.size]? = some o:=by
 show (w.heap.push o)[w.heap.size]? = _
 simp
theorem own_below {B : Nat} {e : TypeId} {size : Nat} {v : Value} {n : Nat} {xs : List Value} {w w' : World} (h : w.ownsRow B e size v n xs) (b : Below w.heap.size w w') : w'.ownsRow B e size v n xs:=by
 refine ⟨h.1,?_⟩
 rcases h.2 with hn | ⟨g,cap,cur,rfl,hb,hgg,rest⟩
 ·exact .inl hn
 ·exact .inr ⟨g,cap,cur,rfl,hb,(b.block g (Array.getElem?_eq_some_iff.1 hgg).1).trans hgg,rest⟩
theorem own_cell {w : World} {B : Nat} {e : TypeId} {size : Nat} {a : Option Addr} {n c : Nat} {xs : List Value} (h : w.ownsRow B e size (.slice a n c) n xs) (hn : 0 < n) : ∃ g,a = some ⟨g,0,none⟩ ∧ g < w.heap.size ∧ ∀ j v,xs[j]? = some v → w.cell? ⟨g,j,none⟩ = some v:=by
 rcases h.2 with ⟨h1,h2⟩ | ⟨g,cap,cur,hv,hb,hg,_⟩
 ·omega
 ·cases hv
  refine ⟨g,rfl,(Array.getElem?_eq_some_iff.1 hg).1,fun j v hj => ?_⟩
  rw [h.cellAt j (by have:=(List.getElem?_eq_some_iff.1 hj).1; rw [h.1] at this; exact this),hj]
theorem new_cells (w : World) (cs : List Value) (t : TypeId) : ∀ j u,cs[j]? = some u → (w.alloc (.cells cs.toArray t)).cell? ((⟨w.heap.size,0,none⟩ : Addr).add j) = some u:=by
 intro j u hj
 have hr : Row (w.alloc (.cells cs.toArray t)) w.heap.size t cs:=alloc_last _ _
 have:=Row.cell hr j
 rw [hj] at this
 rw [cell_add,Nat.zero_add]
 exact this
end Go.Proofs.YtchdeboialbdiaaGreatDoor
