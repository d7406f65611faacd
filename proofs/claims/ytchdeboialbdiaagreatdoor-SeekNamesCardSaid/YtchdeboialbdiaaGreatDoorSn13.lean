/- Texts joined, one behind the other (Label, SSetC). -/
import Derived.Test.YtchdeboialbdiaaGreatDoorSn12
import Derived.ScopeJumps
import Derived.WalkMore
namespace Go.Proofs.YtchdeboialbdiaaGreatDoor
set_option linter.unusedVariables false
set_option linter.unusedSimpArgs false
set_option maxHeartbeats 8000000
set_option maxRecDepth 100000
open Go.RowKit
def jumps (J : Nat → Act → World → Prop) (Q : Exit → Act → World → Prop) : Exit → Act → World → Prop
 | .goto l,a,w => J l a w
 | e,a,w => Q e a w
@[go_sem] theorem jumps_normal {J : Nat → Act → World → Prop} {Q : Exit → Act → World → Prop} {a : Act} {w : World} : jumps J Q .normal a w = Q .normal a w:=rfl
@[go_sem] theorem jumps_exit {J : Nat → Act → World → Prop} {Q : Exit → Act → World → Prop} {a : Act} {w : World} (id : Nat) : jumps J Q (.exit id) a w = Q (.exit id) a w:=rfl
@[go_sem] theorem jumps_ret {J : Nat → Act → World → Prop} {Q : Exit → Act → World → Prop} {a : Act} {w : World} : jumps J Q .ret a w = Q .ret a w:=rfl
@[go_sem] theorem jumps_panic {J : Nat → Act → World → Prop} {Q : Exit → Act → World → Prop} {a : Act} {w : World} (ch : List PanicEntry) : jumps J Q (.panic ch) a w = Q (.panic ch) a w:=rfl
theorem wp_scope_labels {P : Program} {c : Code} {Q : Exit → Act → World → Prop} {a : Act} {w : World} (J : Nat → Act → World → Prop) (μ : Nat → Act → World → Nat)
  (pass : ∀ l a w,J l a w → ∃ rest,findLabel c l = some rest ∧ rest.wp P (jumps (fun l' a' w' => J l' a' w' ∧ μ l' a' w' < μ l a w) Q) a w)
  (first : c.wp P (jumps J Q) a w) : (Code.scope c).wp P Q a w:=by
 intro b k cs
 have key : ∀ n l a w rest, μ l a w = n → J l a w → findLabel c l = some rest → ∃ e a' w',Q e a' w' ∧ Arrives P (lone (b.at a (.code rest :: .inScope c :: k)) cs w) b k cs e a' w':=by
  intro n
  induction n using Nat.strongRecOn with
  | _ n ih =>
   intro l a w rest hn hJ hf
   obtain ⟨rest',hf',hp⟩:=pass l a w hJ
   obtain rfl:=Option.some.inj (hf.symm.trans hf')
   obtain ⟨e,a₁,w₁,hq,harr⟩:=hp b (.inScope c :: k) cs
   cases e with
   | normal => exact ⟨.normal,a₁,w₁,hq,Steps.trans harr (.one step_inScope)⟩
   | exit id => exact ⟨.exit id,a₁,w₁,hq,fun k' hk => harr k' (by simp [exitTo,hk])⟩
   | goto l' =>
    obtain ⟨hJ',hlt⟩:=hq
    obtain ⟨rest2,hf2,_⟩:=pass l' a₁ w₁ hJ'
    obtain ⟨e₂,a₂,w₂,hq₂,harr₂⟩:=ih _ (by omega) l' a₁ w₁ rest2 rfl hJ' hf2
    exact ⟨e₂,a₂,w₂,hq₂,.of_steps (harr _ (by simp [gotoIn,hf2])) harr₂⟩
   | ret => exact ⟨_,a₁,w₁,hq,harr⟩
   | panic ch => exact ⟨_,a₁,w₁,hq,harr⟩
   | outgrown => exact ⟨_,a₁,w₁,hq,harr⟩
 obtain ⟨e,a₁,w₁,hq,harr⟩:=first b (.inScope c :: k) cs
 cases e with
 | normal => exact ⟨.normal,a₁,w₁,hq,.head step_scope (Steps.trans harr (.one step_inScope))⟩
 | exit id => exact ⟨.exit id,a₁,w₁,hq,fun k' hk => .head step_scope (harr k' (by simp [exitTo,hk]))⟩
 | goto l' =>
  obtain ⟨rest2,hf2,_⟩:=pass l' a₁ w₁ hq
  obtain ⟨e₂,a₂,w₂,hq₂,harr₂⟩:=key _ l' a₁ w₁ rest2 rfl hq hf2
  exact ⟨e₂,a₂,w₂,hq₂,.of_steps (.head step_scope (harr _ (by simp [gotoIn,hf2]))) harr₂⟩
 | ret => exact ⟨_,a₁,w₁,hq,.of_steps (.one step_scope) harr⟩
 | panic ch => exact ⟨_,a₁,w₁,hq,.of_steps (.one step_scope) harr⟩
 | outgrown => exact ⟨_,a₁,w₁,hq,.of_steps (.one step_scope) harr⟩
def scopeOf : Option Code → Code
 | some (.seq _ (.scope c)) => c
 | _ => .skip
end Go.Proofs.YtchdeboialbdiaaGreatDoor
namespace Go.Proofs.YtchdeboialbdiaaGreatDoor
set_option linter.unusedVariables false
set_option linter.unusedSimpArgs false
set_option maxHeartbeats 8000000
set_option maxRecDepth 100000
open Go.RowKit
open Go.Lib hiding intOf
theorem infoFn : (Tryz.prog.info? 118).map (fun i => (i.zero,i.size,i.bytes)) = some (some .nilFunc,1,8):=by kernel_rfl
theorem ReadsTok.keepA {B : Nat} {w w' : World} {a : Option Addr} {n : Nat} {V : List Nat} (h : ReadsTok w a n V) (hb : Below B w w') (ha : ∀ ad,a = some ad → ad.block < B) : ReadsTok w' a n V:=by
 obtain ⟨hl,h⟩:=h
 refine ⟨hl,fun hn => ?_⟩
 obtain ⟨b,off,hab,hlt,hc⟩:=h hn
 have hk:=ha _ hab
 refine ⟨b,off,hab,Nat.lt_of_lt_of_le hlt hb.size,fun i v hv => ?_⟩
 obtain ⟨h1,h2⟩:=hc i v hv
 exact ⟨by rw [hb.cell (p:=⟨b,off + i * 2,none⟩) hk]; exact h1,by rw [hb.cell (p:=⟨b,off + i * 2 + 1,none⟩) hk]; exact h2⟩
theorem Scan.keepA {B : Nat} {w w' : World} {p : Nat} {a : Option Addr} {n c : Nat} {V : List Nat} {i : Nat} {fo : Bool} (h : Scan w p a n c V i fo) (hb : Below B w w') (hp : p < B) (ha : ∀ ad,a = some ad → ad.block < B) : Scan w' p a n c V i fo :=
 ⟨h.row.keep hb hp,h.toks.keepA hb ha,h.apart⟩
theorem grown_low {B : Nat} {w W W' : World} {r : Option Nat} (h : w.grownBy W r) (hb : Below B W W') (hB : w.heap.size ≤ B) : w.grownBy W' r :=
 ⟨hb.os.trans h.os,hb.tape.trans h.tape,hb.output.trans h.output,Nat.le_trans h.size hb.size,fun k hk hne => (hb.block k (Nat.lt_of_lt_of_le hk hB)).trans (h.block k hk hne)⟩
def FunsOwn (B : Nat) (v : Value) (Ps : List (Nat → Bool)) (W : World) : Prop :=
 ∃ fs : List Value,W.ownsRow B 118 1 v Ps.length fs ∧ ∀ (i : Nat) (P : Nat → Bool),Ps[i]? = some P → ∃ (f : Value) (K : Nat → Prop),fs[i]? = some f ∧ (∀ k,K k → B ≤ k) ∧ (∀ b,v.ownBlock = some b → ¬ K b) ∧ FunAt K W f P
theorem FunsOwn.nil (B : Nat) (W : World) : FunsOwn B (.slice none 0 0) [] W:=⟨[],World.ownsRow_nil _ _ _ _,fun i P h => by simp at h⟩
theorem FunsOwn.grown {B p : Nat} {v : Value} {Ps : List (Nat → Bool)} {W W' : World} (h : FunsOwn B v Ps W) (hg : W.grownBy W' (some p)) (hp : p < B) : FunsOwn B v Ps W':=by
 obtain ⟨fs,h1,h2⟩:=h
 refine ⟨fs,World.ownsRow.kept h1 hg (.inr ?_),fun i P hP => ?_⟩
 ·intro e
  obtain ⟨hB,_⟩:=own_block h1 e
  omega
 ·obtain ⟨f,K,hf,hk,ha,hF⟩:=h2 i P hP
  exact ⟨f,K,hf,hk,ha,hF.keep (fun k hk' => hg.block k (hF.1 k hk') (fun e => by cases e; have:=hk _ hk'; omega)) hg.size⟩
theorem FunsOwn.push {B : Nat} {v v' : Value} {Ps : List (Nat → Bool)} {P : Nat → Bool} {f : Value} {W W' : World} (h : FunsOwn B v Ps W) (hB : B ≤ W.heap.size) {fs : List Value} (hown : W.ownsRow B 118 1 v Ps.length fs) (hp : AppPost W B 118 1 v Ps.length fs [f] v' W')
  (hfs : ∀ (i : Nat) (P : Nat → Bool),Ps[i]? = some P → ∃ (f : Value) (K : Nat → Prop),fs[i]? = some f ∧ (∀ k,K k → B ≤ k) ∧ (∀ b,v.ownBlock = some b → ¬ K b) ∧ FunAt K W f P)
  (hf : ∃ K,(∀ k,K k → B ≤ k) ∧ (∀ b,v.ownBlock = some b → ¬ K b) ∧ FunAt K W f P) : FunsOwn B v' (Ps ++ [P]) W':=by
 refine ⟨fs ++ [f],by rw [List.length_append,List.length_singleton]; exact hp.1,fun i Q hQ => ?_⟩
 have hl : fs.length = Ps.length:=by rw [hown.1,Nat.mul_one]
 have go : ∀ (g : Value) (K : Nat → Prop) (Q : Nat → Bool),(∀ k,K k → B ≤ k) → (∀ b,v.ownBlock = some b → ¬ K b) → FunAt K W g Q → (∀ b,v'.ownBlock = some b → ¬ K b) ∧ FunAt K W' g Q:=by
  intro g K Q h1 h2 h3
  constructor
  ·intro b hb hk
   rcases hp.2.2 with e | e
   ·exact h2 b (e ▸ hb) hk
   ·have:=e b hb
    have:=h3.1 b hk
    omega
  ·exact h3.keep (fun k hk => hp.2.1.block k (h3.1 k hk) (fun e => h2 k e.symm hk)) hp.2.1.size
 rcases getElem?_snoc hQ with ⟨hi,hQ'⟩ | ⟨rfl,rfl⟩
 ·obtain ⟨g,K,hg,hk,ha,hF⟩:=hfs i Q hQ'
  obtain ⟨r1,r2⟩:=go g K Q hk ha hF
  exact ⟨g,K,by rw [List.getElem?_append_left (by omega)]; exact hg,hk,r1,r2⟩
 ·obtain ⟨K,hk,ha,hF⟩:=hf
  obtain ⟨r1,r2⟩:=go f K Q hk ha hF
  exact ⟨f,K,by rw [← hl,List.getElem?_concat_length],hk,r1,r2⟩
structure HasSt (w : World) (p : Nat) (a : Option Addr) (n c : Nat) (V : List Nat) (fo neg : Bool) (els : List El) (v : Value) (i : Nat) (W : World) : Prop where
 grown : w.grownBy W (some p)
 scan : Scan W p a n c V i fo
 box : Row W w.heap.size 154 [v]
 sign : Row W (w.heap.size + 1) 4 [.bool neg]
 funs : FunsOwn (w.heap.size + 2) v (els.map elHas) W
 size : w.heap.size + 2 ≤ W.heap.size
theorem HasSt.step {w W W' : World} {p n c i j : Nat} {a : Option Addr} {V : List Nat} {fo neg : Bool} {els : List El} {v : Value} (h : HasSt w p a n c V fo neg els v i W) (hp : p < w.heap.size) (hg : W.grownBy W' (some p)) (hs : Scan W' p a n c V j fo) : HasSt w p a n c V fo neg els v j W' :=
 ⟨grown_then h.grown hg (fun j h => by cases h; exact .inr rfl),hs,(hg.block w.heap.size h.box.lt (fun e => by cases e; omega)).trans h.box,(hg.block (w.heap.size + 1) h.sign.lt (fun e => by cases e; omega)).trans h.sign,h.funs.grown hg (by omega),Nat.le_trans h.size hg.size⟩
theorem HasSt.quiet {w W W' : World} {p n c i : Nat} {a : Option Addr} {V : List Nat} {fo neg : Bool} {els : List El} {v : Value} (h : HasSt w p a n c V fo neg els v i W) (hp : p < w.heap.size) (hq : Quiet W W') : HasSt w p a n c V fo neg els v i W':=by
 obtain ⟨m,rfl⟩:=hq
 exact h.step hp (grown_quiet (grown_refl W _) m) (h.scan.quiet m)
theorem HasSt.alloc {w W : World} {p n c i : Nat} {a : Option Addr} {V : List Nat} {fo neg : Bool} {els : List El} {v : Value} (h : HasSt w p a n c V fo neg els v i W) (hp : p < w.heap.size) (o : Obj) : HasSt w p a n c V fo neg els v i (W.alloc o):=by
 have hb : Below W.heap.size W (W.alloc o):=(Below.refl _ W).alloc (Nat.le_refl _) _
 exact h.step hp (grown_of_below hb _) (h.scan.keep hb (Nat.le_refl _))
theorem HasSt.move {w W : World} {p n c i : Nat} {a : Option Addr} {V : List Nat} {fo neg : Bool} {els : List El} {v : Value} (h : HasSt w p a n c V fo neg els v i W) (hp : p < w.heap.size) (j : Nat) {J : Int} (hJ : J = (j : Int)) : HasSt w p a n c V fo neg els v j (W.setCell ⟨p,1,none⟩ (.int .i64 J)):=by
 subst hJ
 exact h.step hp (grownBy_set _ p 1 _) (h.scan.move j)
theorem HasSt.push {w W W' : World} {p n c i : Nat} {a : Option Addr} {V : List Nat} {fo neg : Bool} {els : List El} {v v' f : Value} {e : El} {fs : List Value} (h : HasSt w p a n c V fo neg els v i W) (hp : p < w.heap.size) (ha : ∀ ad,a = some ad → ad.block < w.heap.size) (hown : W.ownsRow (w.heap.size + 2) 118 1 v els.length fs)
  (hfs : ∀ (i : Nat) (P : Nat → Bool),(els.map elHas)[i]? = some P → ∃ (f : Value) (K : Nat → Prop),fs[i]? = some f ∧ (∀ k,K k → w.heap.size + 2 ≤ k) ∧ (∀ b,v.ownBlock = some b → ¬ K b) ∧ FunAt K W f P)
  (hpost : AppPost W (w.heap.size + 2) 118 1 v els.length fs [f] v' W') (hf : ∃ K,(∀ k,K k → w.heap.size + 2 ≤ k) ∧ (∀ b,v.ownBlock = some b → ¬ K b) ∧ FunAt K W f (elHas e)) :
  HasSt w p a n c V fo neg (els ++ [e]) v' i (W'.setCell ⟨w.heap.size,0,none⟩ v'):=by
 have hb:=hpost.below hown h.size
 have hle:=hb.size
 have h1 : Row W' w.heap.size 154 [v]:=h.box.keep hb (by omega)
 have hF : FunsOwn (w.heap.size + 2) v' (els.map elHas ++ [elHas e]) W':=by
  have hl : (els.map elHas).length = els.length:=List.length_map ..
  exact FunsOwn.push (fs:=fs) ⟨fs,by rw [hl]; exact hown,hfs⟩ h.size (by rw [hl]; exact hown) (by rw [hl]; exact hpost) hfs hf
 have hg:=grownBy_set W' w.heap.size 0 v'
 have hsz:=h.size
 refine ⟨?_,?_,h1.set 0 v',(h.sign.keep hb (by omega)).other (by show w.heap.size ≠ w.heap.size + 1; omega) _,?_,?_⟩
 ·exact grown_then (grown_low h.grown hb (by omega)) hg (fun j h => by cases h; exact .inl (Nat.le_refl _))
 ·exact (h.scan.keepA hb (by omega) (fun ad h => by have:=ha ad h; omega)).grown hg (by omega) (fun ad h => by have:=ha ad h; omega)
 ·rw [List.map_append]
  exact hF.grown hg (by omega)
 ·rw [World.size_setCell]; omega
end Go.Proofs.YtchdeboialbdiaaGreatDoor
