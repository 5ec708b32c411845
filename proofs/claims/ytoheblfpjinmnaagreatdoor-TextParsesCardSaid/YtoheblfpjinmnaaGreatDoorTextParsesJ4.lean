import Derived.RangeFuncNested
import Derived.RangeFuncBound
import Derived.RangeFuncCalls
import Derived.Test.YtoheblfpjinmnaaGreatDoorTextParsesJ2
import Derived.RangeFuncGives
set_option linter.unusedVariables false
set_option linter.unusedSimpArgs false
/- A part of the proof that TextParses returns true. -/
namespace Go.Proofs.YtoheblfpjinmnaaGreatDoor
open Go Go.RowKit
theorem Mod.putObj {F : List Nat} {a w : World} (h : Mod F a w) {l : Nat} (hl : l ∈ F ∨ a.heap.size ≤ l) (o : Obj) : Mod F a (w.putObj l o) :=
 h.trans (G:=[l]) ⟨rfl,rfl,rfl,by simp,fun k _ hk => World.putObj_heap_other (by simpa using hk)⟩ (by simpa using hl)
theorem below_putObj {B : Nat} {W : World} {l : Nat} (o : Obj) (hl : B ≤ l) : Below B W (W.putObj l o) :=
 ⟨rfl,rfl,rfl,by simp,fun k hk => World.putObj_heap_other (by omega)⟩
def ClB {β : Type} (n : Nat) (J : β → World → Prop) : Prop:=∀ s A B,J s A → Below n A B → J s B
def YieldR {α : Type} (l : Nat) (J Jx : List α → World → Prop) (pre : List α) (x : α) (W : World) (e : Ending) (W' : World) : Prop :=
 (e = .returned (.bool true) ∧ J (pre ++ [x]) W' ∧ Mod [l] W W') ∨ (e = .returned (.bool false) ∧ Jx (pre ++ [x]) W')
def SeqR {α : Type} (F : Fence) (n : Nat) (P : Program) (g : Nat) (lb : Array Value) (encs : α → Array Value) (S Sp : List α → Prop) (N : Nat) (w : World) : Prop :=
 ∀ (l : Nat) (J Jx : List α → World → Prop) (W : World),Below w.heap.size w W → w.heap.size ≤ l → l < W.heap.size → ClB W.heap.size J →
  (∀ pre x W1,J pre W1 → pre.length < N → YieldAt F (n - 1) P l (encs x) W1 (YieldR l J Jx pre x W1)) → J [] W →
  CallsIn F n P g (#[.func (.yield l) #[] #[]] ++ lb) W fun e W' => (∃ v,e = .returned v) ∧ ((∃ xs,S xs ∧ J xs W') ∨ (∃ pre,Sp pre ∧ Jx pre W'))
def HighKept (B : Nat) (W W' : World) : Prop:=∀ k o,B ≤ k → W.heap[k]? = some o → W'.heap[k]? = some o
def postR {α : Type} (B : Nat) (I : List α → World → Prop) (Ix : Code → List α → World → Prop) (xs : List α) (W : World) : Exit → Act → World → Prop
 | .normal,_,W' => Mod [] W W' ∧ I xs W'
 | .ret,_,W' => HighKept B W W' ∧ Ix .ret xs W'
 | .exit id,_,W' => HighKept B W W' ∧ Ix (.exit id) xs W'
 | .goto t,_,W' => HighKept B W W' ∧ Ix (.goto t) xs W'
 | .panic _,_,_ => False
 | .outgrown,_,_ => False
def ClC {α : Type} (Ax : α → Act → World → Prop) : Prop:=∀ x a' (A B : World),Ax x a' A → A.heap.size ≤ B.heap.size → (∀ (k : Nat) (o : Obj),A.heap[k]? = some o → o.isCells = true → B.heap[k]? = some o) → Ax x a' B
variable {F : Fence} {n : Nat} {P : Program}
theorem wp_rangeR {α : Type} {g : Operand} {ps : Array Tmp} {assign body : Code} {Q : Exit → Act → World → Prop} {a : Act} {w : World}
  (hro : F.round = none) (h1 : 1 ≤ n) {gf : Nat} {lb : Array Value} (hg : a.eval g = .func (.func gf) #[] lb) (hFg : F.fn gf) (eg : ∀ args w,(callFunc gf args).run P w = .ok (.enter gf args) w)
  {encs : α → Array Value} {S Sp : List α → Prop} {N : Nat} {w0 : World} (hseq : SeqR F (n - 1) P gf lb encs S Sp N w0) (hb0 : Below w0.heap.size w0 w) (hps : ∀ x,(encs x).size = ps.size)
  (I : List α → World → Prop) (Ix : Code → List α → World → Prop) (hI : ClB w.heap.size I) (hIx : ∀ c,ClB w.heap.size (Ix c)) (h0 : I [] w) (Ax : α → Act → World → Prop) (hAx : ClC Ax)
  (hassign : ∀ (l : Nat) (pre : List α) (x : α) (W : World) (K : Act → World → Prop),w.heap.size ≤ l → I pre W → (∀ a' W',Mod [] W W' → Ax x a' W' → K a' W') →
   assign.wpIn (F.inRound l) (n - 1 - 1) P (Exit.then K (fun _ _ _ => False)) { tmps:=(ps.zip (encs x)).foldl (fun t (p,v) => t.setIfInBounds p v) a.tmps,defers:=[] } W)
  (hbody : ∀ (l : Nat) (pre : List α) (x : α) (a' : Act) (W : World),w.heap.size ≤ l → I pre W → Ax x a' W → pre.length < N → body.wpIn (F.inRound l) (n - 1 - 1) P (postR w.heap.size I Ix (pre ++ [x]) W) a' W)
  (hdone : ∀ (D : Nat) (xs : List α) (W : World),w.heap.size ≤ D → S xs → I xs W → W.heap[D]? = some (.deferred (some [])) → Q .normal { a with defers:={ target:=.collected D,args:=#[] } :: a.defers } W)
  (hstop : ∀ (D : Nat) (c : Code) (pre : List α) (W : World),w.heap.size ≤ D → Sp pre → Ix c pre W → W.heap[D]? = some (.deferred (some [])) → c.wpIn F n P Q { a with defers:={ target:=.collected D,args:=#[] } :: a.defers } W) :
  (Code.rangeFunc g ps assign body).wpIn F n P Q a w:=by
 refine wpIn_rangeFunc ?_
 intro fn hfn
 rw [hro]
 obtain ⟨rec,hrec⟩ : ∃ rec : LoopState → Option Code → Loop,rec = fun st pe => { state:=st,pending:=pe,fn,tmps:=a.tmps,params:=ps,assign,body,defers:=w.heap.size }:=⟨_,rfl⟩
 obtain ⟨W1,hW1⟩ : ∃ W1,(w.alloc (.deferred (some []))).alloc (.loop (rec .ready none)) = W1:=⟨_,rfl⟩
 have hL1 : W1.heap[w.heap.size + 1]? = some (.loop (rec .ready none)):=by
  rw [← hW1];have:=World.alloc_heap_new (w.alloc (.deferred (some []))) (.loop (rec .ready none));rwa [World.size_alloc] at this
 have hK1 : W1.heap[w.heap.size]? = some (.deferred (some [])):=by
  rw [← hW1];exact (Below.heap_alloc _ _ _ (by simp)).trans (World.alloc_heap_new w _)
 have hbw : Below w.heap.size w W1:=by
  rw [← hW1];exact ((Below.refl _ w).alloc (Nat.le_refl _) _).alloc (by simp) _
 have hI1 : I [] W1:=hI _ _ _ h0 hbw
 have hb1 : Below w0.heap.size w0 W1:=hb0.trans (hbw.mono hb0.size)
 have hs1 : W1.heap.size = w.heap.size + 2:=by rw [← hW1];simp
 have hs0:=hb0.size
 refine ⟨w.heap.size + 1,[{ target:=.collected w.heap.size,args:=#[] }],W1,{ target:=.fn (.func gf) lb,args:=#[.func (.yield (w.heap.size + 1)) #[] #[]] },W1,gf,
  #[.func (.yield (w.heap.size + 1)) #[] #[]] ++ lb,W1,?_,?_,?_,?_,fun _ => h1,?_⟩
 ·rw [← hW1,hrec];exact run_enterLoop_outer _ _ _ _ _
 ·simp only [resolve,hg]
  simp [go_sem]
 ·intro f' hf';simp [Target.leads] at hf';subst hf';exact hFg
 ·simp [invoke,go_sem,eg]
 ·refine (hseq (w.heap.size + 1)
   (fun pre W => I pre W ∧ W.heap[w.heap.size + 1]? = some (.loop (rec .ready none)) ∧ W.heap[w.heap.size]? = some (.deferred (some [])))
   (fun pre W => ∃ c,Ix c pre W ∧ W.heap[w.heap.size + 1]? = some (.loop (rec .done (some c))) ∧ W.heap[w.heap.size]? = some (.deferred (some [])))
   W1 hb1 (by omega) (by omega)
   (fun s A B hs hg' => ⟨hI s A B hs.1 (hg'.mono (by omega)),(hg'.block _ (by omega)).trans hs.2.1,(hg'.block _ (by omega)).trans hs.2.2⟩)
   ?_ ⟨hI1,hL1,hK1⟩).mono ?_
  ·-- one round
   rintro pre x W ⟨hi,hl,hk⟩ hlen
   have hy:=run_yield (P:=P) (args:=encs x) hl (by rw [hrec];exact hps x)
   rw [hrec] at hy
   refine ⟨fn,_,assign,body,hy,roundIn_of_wpIn hfn (hassign _ pre x W _ (by omega) hi ?_)⟩
   clear hy
   intro a' Wa hm hax
   have hla:=hm.keep hl (by simp)
   have hka:=hm.keep hk (by simp)
   have hlt : w.heap.size + 1 < Wa.heap.size:=(Array.getElem?_eq_some_iff.1 hla).1
   have hia : I pre Wa:=hI _ _ _ hi (hm.below.mono (by have:=(Array.getElem?_eq_some_iff.1 hk).1;omega))
   refine ⟨_,run_beginRound hla (by rw [hrec]),?_⟩
   have hl2 : (Wa.putObj (w.heap.size + 1) (.loop { rec .ready none with state:=.busy })).heap[w.heap.size + 1]? = some (.loop { rec .ready none with state:=.busy }):=World.putObj_heap_same hlt
   have hk2 : (Wa.putObj (w.heap.size + 1) (.loop { rec .ready none with state:=.busy })).heap[w.heap.size]? = some (.deferred (some [])):=(World.putObj_heap_other (by omega)).trans hka
   have hi2 : I pre (Wa.putObj (w.heap.size + 1) (.loop { rec .ready none with state:=.busy })):=hI _ _ _ hia (below_putObj _ (by omega))
   have hax2 : Ax x a' (Wa.putObj (w.heap.size + 1) (.loop { rec .ready none with state:=.busy })):=hAx _ _ _ _ hax (by simp) (fun k o ho hc => by
    by_cases e : k = w.heap.size + 1
    ·subst e;rw [hla] at ho;cases ho;cases hc
    ·exact (World.putObj_heap_other e).trans ho)
   refine wpIn_mono (hbody _ pre x a' _ (by omega) hi2 hax2 hlen) ?_
   have fin : ∀ (jump : Option Code) (W3 : World),HighKept w.heap.size (Wa.putObj (w.heap.size + 1) (.loop { rec .ready none with state:=.busy })) W3 →
     (Instr.endRound (w.heap.size + 1) jump).run P W3 = .ok (.bool jump.isNone) (W3.putObj (w.heap.size + 1) (.loop (rec (if jump.isNone then .ready else .done) jump))) ∧
     w.heap.size + 1 < W3.heap.size ∧
     (W3.putObj (w.heap.size + 1) (.loop (rec (if jump.isNone then .ready else .done) jump))).heap[w.heap.size + 1]? = some (.loop (rec (if jump.isNone then .ready else .done) jump)) ∧
     (W3.putObj (w.heap.size + 1) (.loop (rec (if jump.isNone then .ready else .done) jump))).heap[w.heap.size]? = some (.deferred (some [])):=fun jump W3 hk3 => by
    have hl3:=hk3 _ _ (by omega) hl2
    have:=run_endRound (P:=P) jump hl3
    rw [hrec] at this ⊢
    exact ⟨this,(Array.getElem?_eq_some_iff.1 hl3).1,World.putObj_heap_same (Array.getElem?_eq_some_iff.1 hl3).1,(World.putObj_heap_other (by omega)).trans (hk3 _ _ (Nat.le_refl _) hk2)⟩
   rintro e a3 W3 hp
   cases e with
   | normal =>
    obtain ⟨hm3,hi3⟩:=hp
    obtain ⟨hr,hl3,hl4,hk4⟩:=fin none W3 (fun k o _ ho => hm3.keep ho (by simp))
    refine ⟨_,_,hr,.inl ⟨rfl,⟨hI _ _ _ hi3 (below_putObj _ (by omega)),hl4,hk4⟩,?_⟩⟩
    refine Mod.putObj ?_ (by simp) _
    exact ((hm.mono (by simp)).putObj (by simp) _).trans hm3 (by simp)
   | ret =>
    obtain ⟨hk3,hi3⟩:=hp
    obtain ⟨hr,hl3,hl4,hk4⟩:=fin (some .ret) W3 hk3
    exact ⟨_,_,hr,.inr ⟨rfl,.ret,hIx _ _ _ _ hi3 (below_putObj _ (by omega)),hl4,hk4⟩⟩
   | exit id =>
    obtain ⟨hk3,hi3⟩:=hp
    obtain ⟨hr,hl3,hl4,hk4⟩:=fin (some (.exit id)) W3 hk3
    exact ⟨_,_,hr,.inr ⟨rfl,.exit id,hIx _ _ _ _ hi3 (below_putObj _ (by omega)),hl4,hk4⟩⟩
   | goto t =>
    obtain ⟨hk3,hi3⟩:=hp
    obtain ⟨hr,hl3,hl4,hk4⟩:=fin (some (.goto t)) W3 hk3
    exact ⟨_,_,hr,.inr ⟨rfl,.goto t,hIx _ _ _ _ hi3 (below_putObj _ (by omega)),hl4,hk4⟩⟩
   | panic ch => exact hp.elim
   | outgrown => exact hp.elim
  ·rintro e W2 ⟨⟨v,rfl⟩,(⟨xs,hS,hi,hl,hk⟩ | ⟨pre,hSp,c,hi,hl,hk⟩)⟩
   ·exact ⟨none,_,by have:=run_endLoop (P:=P) hl (by rw [hrec];simp);rw [hrec] at this;exact this,hdone _ xs _ (Nat.le_refl _) hS (hI _ _ _ hi (below_putObj _ (by omega))) ((World.putObj_heap_other (by omega)).trans hk)⟩
   ·exact ⟨some c,_,by have:=run_endLoop (P:=P) hl (by rw [hrec];simp);rw [hrec] at this;exact this,hstop _ c pre _ (Nat.le_refl _) hSp (hIx _ _ _ _ hi (below_putObj _ (by omega))) ((World.putObj_heap_other (by omega)).trans hk)⟩
theorem wp_rangeW {α : Type} {g : Operand} {ps : Array Tmp} {assign body : Code} {Q : Exit → Act → World → Prop} {a : Act} {w : World} (n : Nat) (h1 : 1 ≤ n)
  {gf : Nat} {lb : Array Value} (hg : a.eval g = .func (.func gf) #[] lb) (eg : ∀ args w,(callFunc gf args).run P w = .ok (.enter gf args) w)
  {encs : α → Array Value} {S Sp : List α → Prop} {N : Nat} {w0 : World} (hseq : SeqR Fence.wide (n - 1) P gf lb encs S Sp N w0) (hb0 : Below w0.heap.size w0 w) (hps : ∀ x,(encs x).size = ps.size)
  (I : List α → World → Prop) (Ix : Code → List α → World → Prop) (hI : ClB w.heap.size I) (hIx : ∀ c,ClB w.heap.size (Ix c)) (h0 : I [] w) (Ax : α → Act → World → Prop) (hAx : ClC Ax)
  (hassign : ∀ (l : Nat) (pre : List α) (x : α) (W : World) (K : Act → World → Prop),w.heap.size ≤ l → I pre W → (∀ a' W',Mod [] W W' → Ax x a' W' → K a' W') →
   assign.wpIn (Fence.wide.inRound l) (n - 1 - 1) P (Exit.then K (fun _ _ _ => False)) { tmps:=(ps.zip (encs x)).foldl (fun t (p,v) => t.setIfInBounds p v) a.tmps,defers:=[] } W)
  (hbody : ∀ (l : Nat) (pre : List α) (x : α) (a' : Act) (W : World),w.heap.size ≤ l → I pre W → Ax x a' W → pre.length < N → body.wpIn (Fence.wide.inRound l) (n - 1 - 1) P (postR w.heap.size I Ix (pre ++ [x]) W) a' W)
  (hdone : ∀ (D : Nat) (xs : List α) (W : World),w.heap.size ≤ D → S xs → I xs W → W.heap[D]? = some (.deferred (some [])) → Q .normal { a with defers:={ target:=.collected D,args:=#[] } :: a.defers } W)
  (hstop : ∀ (D : Nat) (c : Code) (pre : List α) (W : World),w.heap.size ≤ D → Sp pre → Ix c pre W → W.heap[D]? = some (.deferred (some [])) → c.wp P Q { a with defers:={ target:=.collected D,args:=#[] } :: a.defers } W) :
  (Code.rangeFunc g ps assign body).wp P Q a w :=
 (wpIn_wide (n:=n)).1 (wp_rangeR rfl h1 hg trivial eg hseq hb0 hps I Ix hI hIx h0 Ax hAx hassign hbody hdone (fun D c pre W h2 h3 h4 h5 => wpIn_wide.2 (hstop D c pre W h2 h3 h4 h5)))
end Go.Proofs.YtoheblfpjinmnaaGreatDoor
namespace Go.Proofs.YtoheblfpjinmnaaGreatDoor
open Go Go.RowKit
structure KeptO (W W' : World) : Prop where
 size : W.heap.size ≤ W'.heap.size
 same : ∀ (k : Nat) (o : Obj),W.heap[k]? = some o → o.isCells = false → W'.heap[k]? = some o
variable {F : Fence} {n : Nat} {P : Program}
end Go.Proofs.YtoheblfpjinmnaaGreatDoor
namespace Go.Proofs.YtoheblfpjinmnaaGreatDoor
open Go Go.RowKit
structure StepC (c n : Nat) (A B : World) : Prop where
 os : B.os = A.os
 tape : B.tape = A.tape
 output : B.output = A.output
 size : A.heap.size ≤ B.heap.size
 keep : ∀ (k : Nat) (o : Obj),A.heap[k]? = some o → k ≠ c → (k < n ∨ o.isCells = true) → B.heap[k]? = some o
def ClCc {β : Type} (c n : Nat) (I : β → World → Prop) : Prop:=∀ s A B,I s A → StepC c n A B → I s B
theorem StepC.ofMod {c n : Nat} {A B : World} (h : Mod [c] A B) : StepC c n A B:=⟨h.os,h.tape,h.output,h.size,fun k o hk hc _ => h.keep hk (by simpa using hc)⟩
theorem StepC.below {c n m : Nat} {w A B : World} (h : StepC c n A B) (hb : Below m w A) (hm : m ≤ n) (hc : m ≤ c) (hA : m ≤ A.heap.size) : Below m w B :=
 ⟨h.os.trans hb.os,h.tape.trans hb.tape,h.output.trans hb.output,Nat.le_trans hb.size h.size,fun k hk => by
  have hkA : k < A.heap.size:=by omega
  have e : A.heap[k]? = some A.heap[k]:=Array.getElem?_eq_getElem hkA
  rw [← hb.block k hk,e]
  exact h.keep k _ e (by omega) (.inl (by omega))⟩
theorem StepC.row {c n : Nat} {A B : World} (h : StepC c n A B) {b : Nat} {E : TypeId} {z : Nat} {v : Value} {k : Nat} {xs : List Value} (hr : A.ownsRow b E z v k xs) (hc : c ∉ v.ownBlock.toList) : B.ownsRow b E z v k xs:=by
 refine ⟨hr.1,?_⟩
 rcases hr.2 with hn | ⟨g,cap,cur,hv,hbg,hg,rest⟩
 ·exact .inl hn
 ·refine .inr ⟨g,cap,cur,hv,hbg,h.keep g _ hg (fun e => hc ?_) (.inr rfl),rest⟩
  rw [hv,e];simp [Value.ownBlock]
theorem stepC_putObj {c n l : Nat} {W : World} {o : Obj} (o' : Obj) (h : W.heap[l]? = some o) (ho : o.isCells = false) (hl : n ≤ l) : StepC c n W (W.putObj l o') :=
 ⟨rfl,rfl,rfl,by simp,fun k o2 hk _ hc => by
  have hne : k ≠ l:=by
   rintro rfl
   rw [h] at hk
   cases hk
   rcases hc with hc | hc
   ·omega
   ·rw [ho] at hc;cases hc
  exact (World.putObj_heap_other hne).trans hk⟩
def SeqC {α : Type} (F : Fence) (n : Nat) (P : Program) (g : Nat) (lb : Array Value) (enc : α → Value) (c : Nat) (KO : Obj → Prop) (o : Obj) (xs : List α) : Prop :=
 ∀ (l : Nat) (J : List α → World → Prop) (W : World),l < W.heap.size → l ≠ c → W.heap[c]? = some o → (∀ s A B,J s A → Mod [c] A B → J s B) →
  (∀ pre x post W1,xs = pre ++ x :: post → J pre W1 → (∃ o1,W1.heap[c]? = some o1 ∧ KO o1) → YieldAt F (n - 1) P l #[enc x] W1 fun e W' => e = .returned (.bool true) ∧ J (pre ++ [x]) W' ∧ W'.heap[c]? = W1.heap[c]?) → J [] W →
  CallsIn F n P g (#[.func (.yield l) #[] #[]] ++ lb) W fun e W' => (∃ v,e = .returned v) ∧ J xs W'
def postC {α : Type} (c : Nat) (I : List α → World → Prop) (xs : List α) (W : World) : Exit → Act → World → Prop
 | .normal,_,W' => KeptO W W' ∧ W'.heap[c]? = W.heap[c]? ∧ I xs W'
 | _,_,_ => False
variable {F : Fence} {n : Nat} {P : Program}
theorem wp_rangeC {α : Type} {g : Operand} {ps : Array Tmp} {assign body : Code} {Q : Exit → Act → World → Prop} {a : Act} {w : World}
  (hro : F.round = none) (h1 : 1 ≤ n) {gf : Nat} {lb : Array Value} (hg : a.eval g = .func (.func gf) #[] lb) (hFg : F.fn gf) (eg : ∀ args w,(callFunc gf args).run P w = .ok (.enter gf args) w)
  {enc : α → Value} {c : Nat} {KO : Obj → Prop} {o : Obj} {xs : List α} (hseq : SeqC F (n - 1) P gf lb enc c KO o xs) (hc : w.heap[c]? = some o) (hps : ps.size = 1)
  (I : List α → World → Prop) (hI : ClCc c w.heap.size I) (h0 : I [] w) (Ax : α → Act → World → Prop) (hAx : ClC Ax)
  (hassign : ∀ (l : Nat) (pre : List α) (x : α) (W : World) (K : Act → World → Prop),w.heap.size ≤ l → I pre W → (∀ a' W',Mod [] W W' → Ax x a' W' → K a' W') →
   assign.wpIn (F.inRound l) (n - 1 - 1) P (Exit.then K (fun _ _ _ => False)) { tmps:=(ps.zip #[enc x]).foldl (fun t (p,v) => t.setIfInBounds p v) a.tmps,defers:=[] } W)
  (hbody : ∀ (l : Nat) (pre : List α) (x : α) (post : List α) (a' : Act) (W : World),w.heap.size ≤ l → xs = pre ++ x :: post → I pre W → (∃ o1,W.heap[c]? = some o1 ∧ KO o1) → Ax x a' W → body.wpIn (F.inRound l) (n - 1 - 1) P (postC c I (pre ++ [x]) W) a' W)
  (hdone : ∀ (D : Nat) (W : World),w.heap.size ≤ D → I xs W → W.heap[D]? = some (.deferred (some [])) → Q .normal { a with defers:={ target:=.collected D,args:=#[] } :: a.defers } W) :
  (Code.rangeFunc g ps assign body).wpIn F n P Q a w:=by
 refine wpIn_rangeFunc ?_
 intro fn hfn
 rw [hro]
 obtain ⟨rec,hrec⟩ : ∃ rec : LoopState → Option Code → Loop,rec = fun st pe => { state:=st,pending:=pe,fn,tmps:=a.tmps,params:=ps,assign,body,defers:=w.heap.size }:=⟨_,rfl⟩
 obtain ⟨W1,hW1⟩ : ∃ W1,(w.alloc (.deferred (some []))).alloc (.loop (rec .ready none)) = W1:=⟨_,rfl⟩
 have hL1 : W1.heap[w.heap.size + 1]? = some (.loop (rec .ready none)):=by
  rw [← hW1];have:=World.alloc_heap_new (w.alloc (.deferred (some []))) (.loop (rec .ready none));rwa [World.size_alloc] at this
 have hK1 : W1.heap[w.heap.size]? = some (.deferred (some [])):=by
  rw [← hW1];exact (Below.heap_alloc _ _ _ (by simp)).trans (World.alloc_heap_new w _)
 have hbw : Below w.heap.size w W1:=by
  rw [← hW1];exact ((Below.refl _ w).alloc (Nat.le_refl _) _).alloc (by simp) _
 have hI1 : I [] W1:=hI _ _ _ h0 (StepC.ofMod ((Mod.ofBelow hbw).mono (by simp)))
 have hs1 : W1.heap.size = w.heap.size + 2:=by rw [← hW1];simp
 have hcl : c < w.heap.size:=(Array.getElem?_eq_some_iff.1 hc).1
 have hc1 : W1.heap[c]? = some o:=(hbw.block c hcl).trans hc
 refine ⟨w.heap.size + 1,[{ target:=.collected w.heap.size,args:=#[] }],W1,{ target:=.fn (.func gf) lb,args:=#[.func (.yield (w.heap.size + 1)) #[] #[]] },W1,gf,
  #[.func (.yield (w.heap.size + 1)) #[] #[]] ++ lb,W1,?_,?_,?_,?_,fun _ => h1,?_⟩
 ·rw [← hW1,hrec];exact run_enterLoop_outer _ _ _ _ _
 ·simp only [resolve,hg]
  simp [go_sem]
 ·intro f' hf';simp [Target.leads] at hf';subst hf';exact hFg
 ·simp [invoke,go_sem,eg]
 ·refine (hseq (w.heap.size + 1)
   (fun pre W => I pre W ∧ W.heap[w.heap.size + 1]? = some (.loop (rec .ready none)) ∧ W.heap[w.heap.size]? = some (.deferred (some [])))
   W1 (by omega) (by omega) hc1
   (fun s A B hs hm => ⟨hI s A B hs.1 (StepC.ofMod hm),hm.keep hs.2.1 (by simp;omega),hm.keep hs.2.2 (by simp;omega)⟩)
   ?_ ⟨hI1,hL1,hK1⟩).mono ?_
  ·-- one round
   rintro pre x post W hxs ⟨hi,hl,hk⟩ ⟨o1,ho1,hko⟩
   have hy:=run_yield (P:=P) (args:=#[enc x]) hl (by rw [hrec];exact hps.symm)
   rw [hrec] at hy
   refine ⟨fn,_,assign,body,hy,roundIn_of_wpIn hfn (hassign _ pre x W _ (by omega) hi ?_)⟩
   clear hy
   intro a' Wa hm hax
   have hla:=hm.keep hl (by simp)
   have hka:=hm.keep hk (by simp)
   have hlt : w.heap.size + 1 < Wa.heap.size:=(Array.getElem?_eq_some_iff.1 hla).1
   have hia : I pre Wa:=hI _ _ _ hi (StepC.ofMod (hm.mono (by simp)))
   refine ⟨_,run_beginRound hla (by rw [hrec]),?_⟩
   have hl2 : (Wa.putObj (w.heap.size + 1) (.loop { rec .ready none with state:=.busy })).heap[w.heap.size + 1]? = some (.loop { rec .ready none with state:=.busy }):=World.putObj_heap_same hlt
   have hk2 : (Wa.putObj (w.heap.size + 1) (.loop { rec .ready none with state:=.busy })).heap[w.heap.size]? = some (.deferred (some [])):=(World.putObj_heap_other (by omega)).trans hka
   have hi2 : I pre (Wa.putObj (w.heap.size + 1) (.loop { rec .ready none with state:=.busy })):=hI _ _ _ hia (stepC_putObj _ hla rfl (by omega))
   have hax2 : Ax x a' (Wa.putObj (w.heap.size + 1) (.loop { rec .ready none with state:=.busy })):=hAx _ _ _ _ hax (by simp) (fun k o ho hc => by
    by_cases e : k = w.heap.size + 1
    ·subst e;rw [hla] at ho;cases ho;cases hc
    ·exact (World.putObj_heap_other e).trans ho)
   have hcW : Wa.heap[c]? = W.heap[c]?:=by
    have hcs : c < W.heap.size:=by have:=(Array.getElem?_eq_some_iff.1 hk).1;omega
    rw [Array.getElem?_eq_getElem hcs]
    exact hm.keep (Array.getElem?_eq_getElem hcs) (by simp)
   refine wpIn_mono (hbody _ pre x post a' _ (by omega) hxs hi2 ⟨o1,(World.putObj_heap_other (by omega)).trans (hcW.trans ho1),hko⟩ hax2) ?_
   rintro e a3 W3 hp
   cases e with
   | normal =>
    obtain ⟨hm3,hc3,hi3⟩:=hp
    have hl3:=hm3.same _ _ hl2 rfl
    have hk3:=hm3.same _ _ hk2 rfl
    have hr:=run_endRound (P:=P) none hl3
    rw [hrec] at hr
    refine ⟨_,_,hr,rfl,⟨hI _ _ _ hi3 (stepC_putObj _ hl3 rfl (by omega)),?_,(World.putObj_heap_other (by omega)).trans hk3⟩,?_⟩
    ·rw [hrec];exact World.putObj_heap_same (Array.getElem?_eq_some_iff.1 hl3).1
    ·rw [World.putObj_heap_other (by omega),hc3,World.putObj_heap_other (by omega),hcW]
   | _ => exact hp.elim
  ·rintro e W2 ⟨⟨v,rfl⟩,hi,hl,hk⟩
   exact ⟨none,_,by have:=run_endLoop (P:=P) hl (by rw [hrec];simp);rw [hrec] at this;exact this,hdone _ _ (Nat.le_refl _) (hI _ _ _ hi (stepC_putObj _ hl rfl (by omega))) ((World.putObj_heap_other (by omega)).trans hk)⟩
end Go.Proofs.YtoheblfpjinmnaaGreatDoor
