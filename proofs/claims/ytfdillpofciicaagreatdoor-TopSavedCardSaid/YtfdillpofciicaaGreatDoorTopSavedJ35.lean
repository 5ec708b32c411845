import Derived.Test.YtfdillpofciicaaGreatDoorTopSavedJ34
import Derived.TacticsIn
import Derived.OrdersIn
import Derived.Lib.ItoaLen
import Derived.Laws.Concat
set_option linter.unusedVariables false
set_option linter.unusedSimpArgs false
/- A part of the proof that TopSaved returns true. -/
namespace Go.Proofs.YtfdillpofciicaaGreatDoor
open Go Go.RowKit
structure StepC (c n : Nat) (A B : World) : Prop where
 os : B.os = A.os
 tape : B.tape = A.tape
 output : B.output = A.output
 size : A.heap.size ≤ B.heap.size
 keep : ∀ (k : Nat) (o : Obj),A.heap[k]? = some o → k ≠ c → (k < n ∨ o.isCells = true) → B.heap[k]? = some o
def ClCc {β : Type} (c n : Nat) (I : β → World → Prop) : Prop:=∀ s A B,I s A → StepC c n A B → I s B
theorem StepC.ofMod {c n : Nat} {A B : World} (h : Mod [c] A B) : StepC c n A B:=⟨h.os,h.tape,h.output,h.size,fun k o hk hc _ => h.keep hk (by simpa using hc)⟩
theorem StepC.below {c n m : Nat} {w A B : World} (h : StepC c n A B) (hb : Below m w A) (hm : m ≤ n) (hc : m ≤ c) (hA : m ≤ A.heap.size) : Below m w B :=
 ⟨h.os.trans hb.os,h.tape.trans hb.tape,h.output.trans hb.output,Nat.le_trans hb.size h.size,fun k hk => by
  have hkA : k < A.heap.size:=by omega
  have e : A.heap[k]? = some A.heap[k]:=Array.getElem?_eq_getElem hkA
  rw [← hb.block k hk,e]
  exact h.keep k _ e (by omega) (.inl (by omega))⟩
theorem StepC.row {c n : Nat} {A B : World} (h : StepC c n A B) {b : Nat} {E : TypeId} {z : Nat} {v : Value} {k : Nat} {xs : List Value} (hr : A.ownsRow b E z v k xs) (hc : c ∉ v.ownBlock.toList) : B.ownsRow b E z v k xs:=by
 refine ⟨hr.1,?_⟩
 rcases hr.2 with hn | ⟨g,cap,cur,hv,hbg,hg,rest⟩
 ·exact .inl hn
 ·refine .inr ⟨g,cap,cur,hv,hbg,h.keep g _ hg (fun e => hc ?_) (.inr rfl),rest⟩
  rw [hv,e];simp [Value.ownBlock]
theorem stepC_putObj {c n l : Nat} {W : World} {o : Obj} (o' : Obj) (h : W.heap[l]? = some o) (ho : o.isCells = false) (hl : n ≤ l) : StepC c n W (W.putObj l o') :=
 ⟨rfl,rfl,rfl,by simp,fun k o2 hk _ hc => by
  have hne : k ≠ l:=by
   rintro rfl
   rw [h] at hk
   cases hk
   rcases hc with hc | hc
   ·omega
   ·rw [ho] at hc;cases hc
  exact (World.putObj_heap_other hne).trans hk⟩
def SeqC {α : Type} (F : Fence) (n : Nat) (P : Program) (g : Nat) (lb : Array Value) (enc : α → Value) (c : Nat) (KO : Obj → Prop) (o : Obj) (xs : List α) : Prop :=
 ∀ (l : Nat) (J : List α → World → Prop) (W : World),l < W.heap.size → l ≠ c → W.heap[c]? = some o → (∀ s A B,J s A → Mod [c] A B → J s B) →
  (∀ pre x post W1,xs = pre ++ x :: post → J pre W1 → (∃ o1,W1.heap[c]? = some o1 ∧ KO o1) → YieldAt F (n - 1) P l #[enc x] W1 fun e W' => e = .returned (.bool true) ∧ J (pre ++ [x]) W' ∧ W'.heap[c]? = W1.heap[c]?) → J [] W →
  CallsIn F n P g (#[.func (.yield l) #[] #[]] ++ lb) W fun e W' => (∃ v,e = .returned v) ∧ J xs W'
def postC {α : Type} (c : Nat) (I : List α → World → Prop) (xs : List α) (W : World) : Exit → Act → World → Prop
 | .normal,_,W' => KeptO W W' ∧ W'.heap[c]? = W.heap[c]? ∧ I xs W'
 | _,_,_ => False
variable {F : Fence} {n : Nat} {P : Program}
theorem wp_rangeC {α : Type} {g : Operand} {ps : Array Tmp} {assign body : Code} {Q : Exit → Act → World → Prop} {a : Act} {w : World}
  (hro : F.round = none) (h1 : 1 ≤ n) {gf : Nat} {lb : Array Value} (hg : a.eval g = .func (.func gf) #[] lb) (hFg : F.fn gf) (eg : ∀ args w,(callFunc gf args).run P w = .ok (.enter gf args) w)
  {enc : α → Value} {c : Nat} {KO : Obj → Prop} {o : Obj} {xs : List α} (hseq : SeqC F (n - 1) P gf lb enc c KO o xs) (hc : w.heap[c]? = some o) (hps : ps.size = 1)
  (I : List α → World → Prop) (hI : ClCc c w.heap.size I) (h0 : I [] w) (Ax : α → Act → World → Prop) (hAx : ClC Ax)
  (hassign : ∀ (l : Nat) (pre : List α) (x : α) (W : World) (K : Act → World → Prop),w.heap.size ≤ l → I pre W → (∀ a' W',Mod [] W W' → Ax x a' W' → K a' W') →
   assign.wpIn (F.inRound l) (n - 1 - 1) P (Exit.then K (fun _ _ _ => False)) { tmps:=(ps.zip #[enc x]).foldl (fun t (p,v) => t.setIfInBounds p v) a.tmps,defers:=[] } W)
  (hbody : ∀ (l : Nat) (pre : List α) (x : α) (post : List α) (a' : Act) (W : World),w.heap.size ≤ l → xs = pre ++ x :: post → I pre W → (∃ o1,W.heap[c]? = some o1 ∧ KO o1) → Ax x a' W → body.wpIn (F.inRound l) (n - 1 - 1) P (postC c I (pre ++ [x]) W) a' W)
  (hdone : ∀ (D : Nat) (W : World),w.heap.size ≤ D → I xs W → W.heap[D]? = some (.deferred (some [])) → Q .normal { a with defers:={ target:=.collected D,args:=#[] } :: a.defers } W) :
  (Code.rangeFunc g ps assign body).wpIn F n P Q a w:=by
 refine wpIn_rangeFunc ?_
 intro fn hfn
 rw [hro]
 obtain ⟨rec,hrec⟩ : ∃ rec : LoopState → Option Code → Loop,rec = fun st pe => { state:=st,pending:=pe,fn,tmps:=a.tmps,params:=ps,assign,body,defers:=w.heap.size }:=⟨_,rfl⟩
 obtain ⟨W1,hW1⟩ : ∃ W1,(w.alloc (.deferred (some []))).alloc (.loop (rec .ready none)) = W1:=⟨_,rfl⟩
 have hL1 : W1.heap[w.heap.size + 1]? = some (.loop (rec .ready none)):=by
  rw [← hW1];have:=World.alloc_heap_new (w.alloc (.deferred (some []))) (.loop (rec .ready none));rwa [World.size_alloc] at this
 have hK1 : W1.heap[w.heap.size]? = some (.deferred (some [])):=by
  rw [← hW1];exact (Below.heap_alloc _ _ _ (by simp)).trans (World.alloc_heap_new w _)
 have hbw : Below w.heap.size w W1:=by
  rw [← hW1];exact ((Below.refl _ w).alloc (Nat.le_refl _) _).alloc (by simp) _
 have hI1 : I [] W1:=hI _ _ _ h0 (StepC.ofMod ((Mod.ofBelow hbw).mono (by simp)))
 have hs1 : W1.heap.size = w.heap.size + 2:=by rw [← hW1];simp
 have hcl : c < w.heap.size:=(Array.getElem?_eq_some_iff.1 hc).1
 have hc1 : W1.heap[c]? = some o:=(hbw.block c hcl).trans hc
 refine ⟨w.heap.size + 1,[{ target:=.collected w.heap.size,args:=#[] }],W1,{ target:=.fn (.func gf) lb,args:=#[.func (.yield (w.heap.size + 1)) #[] #[]] },W1,gf,
  #[.func (.yield (w.heap.size + 1)) #[] #[]] ++ lb,W1,?_,?_,?_,?_,fun _ => h1,?_⟩
 ·rw [← hW1,hrec];exact run_enterLoop_outer _ _ _ _ _
 ·simp only [resolve,hg]
  simp [go_sem]
 ·intro f' hf';simp [Target.leads] at hf';subst hf';exact hFg
 ·simp [invoke,go_sem,eg]
 ·refine (hseq (w.heap.size + 1)
   (fun pre W => I pre W ∧ W.heap[w.heap.size + 1]? = some (.loop (rec .ready none)) ∧ W.heap[w.heap.size]? = some (.deferred (some [])))
   W1 (by omega) (by omega) hc1
   (fun s A B hs hm => ⟨hI s A B hs.1 (StepC.ofMod hm),hm.keep hs.2.1 (by simp;omega),hm.keep hs.2.2 (by simp;omega)⟩)
   ?_ ⟨hI1,hL1,hK1⟩).mono ?_
  ·-- one round
   rintro pre x post W hxs ⟨hi,hl,hk⟩ ⟨o1,ho1,hko⟩
   have hy:=run_yield (P:=P) (args:=#[enc x]) hl (by rw [hrec];exact hps.symm)
   rw [hrec] at hy
   refine ⟨fn,_,assign,body,hy,roundIn_of_wpIn hfn (hassign _ pre x W _ (by omega) hi ?_)⟩
   clear hy
   intro a' Wa hm hax
   have hla:=hm.keep hl (by simp)
   have hka:=hm.keep hk (by simp)
   have hlt : w.heap.size + 1 < Wa.heap.size:=(Array.getElem?_eq_some_iff.1 hla).1
   have hia : I pre Wa:=hI _ _ _ hi (StepC.ofMod (hm.mono (by simp)))
   refine ⟨_,run_beginRound hla (by rw [hrec]),?_⟩
   have hl2 : (Wa.putObj (w.heap.size + 1) (.loop { rec .ready none with state:=.busy })).heap[w.heap.size + 1]? = some (.loop { rec .ready none with state:=.busy }):=World.putObj_heap_same hlt
   have hk2 : (Wa.putObj (w.heap.size + 1) (.loop { rec .ready none with state:=.busy })).heap[w.heap.size]? = some (.deferred (some [])):=(World.putObj_heap_other (by omega)).trans hka
   have hi2 : I pre (Wa.putObj (w.heap.size + 1) (.loop { rec .ready none with state:=.busy })):=hI _ _ _ hia (stepC_putObj _ hla rfl (by omega))
   have hax2 : Ax x a' (Wa.putObj (w.heap.size + 1) (.loop { rec .ready none with state:=.busy })):=hAx _ _ _ _ hax (by simp) (fun k o ho hc => by
    by_cases e : k = w.heap.size + 1
    ·subst e;rw [hla] at ho;cases ho;cases hc
    ·exact (World.putObj_heap_other e).trans ho)
   have hcW : Wa.heap[c]? = W.heap[c]?:=by
    have hcs : c < W.heap.size:=by have:=(Array.getElem?_eq_some_iff.1 hk).1;omega
    rw [Array.getElem?_eq_getElem hcs]
    exact hm.keep (Array.getElem?_eq_getElem hcs) (by simp)
   refine wpIn_mono (hbody _ pre x post a' _ (by omega) hxs hi2 ⟨o1,(World.putObj_heap_other (by omega)).trans (hcW.trans ho1),hko⟩ hax2) ?_
   rintro e a3 W3 hp
   cases e with
   | normal =>
    obtain ⟨hm3,hc3,hi3⟩:=hp
    have hl3:=hm3.same _ _ hl2 rfl
    have hk3:=hm3.same _ _ hk2 rfl
    have hr:=run_endRound (P:=P) none hl3
    rw [hrec] at hr
    refine ⟨_,_,hr,rfl,⟨hI _ _ _ hi3 (stepC_putObj _ hl3 rfl (by omega)),?_,(World.putObj_heap_other (by omega)).trans hk3⟩,?_⟩
    ·rw [hrec];exact World.putObj_heap_same (Array.getElem?_eq_some_iff.1 hl3).1
    ·rw [World.putObj_heap_other (by omega),hc3,World.putObj_heap_other (by omega),hcW]
   | _ => exact hp.elim
  ·rintro e W2 ⟨⟨v,rfl⟩,hi,hl,hk⟩
   exact ⟨none,_,by have:=run_endLoop (P:=P) hl (by rw [hrec];simp);rw [hrec] at this;exact this,hdone _ _ (Nat.le_refl _) (hI _ _ _ hi (stepC_putObj _ hl rfl (by omega))) ((World.putObj_heap_other (by omega)).trans hk)⟩
end Go.Proofs.YtfdillpofciicaaGreatDoor
namespace Go.Proofs.YtfdillpofciicaaGreatDoor
open Go Go.RowKit
def notDefer (o : Oper) : Bool:=match o.op with | .defer _ => false | _ => true
theorem notDefer_ne {o : Oper} (h : notDefer o = true) : ∀ c,o.op ≠ .defer c:=fun c e => by unfold notDefer at h;rw [e] at h;cases h
theorem letsOut_onlyN {Q : Exit → Act → World → Prop} : ¬ LetsOut (OnlyN Q):=fun ⟨_,_,h,_⟩ => by cases h
section
variable {P : Program} {r n : Nat} {ops : Array Oper} {Q Q' : Exit → Act → World → Prop}
theorem oper_round {o : Oper} {a : Act} {w : World} {K K' : Act → World → Prop} (hnd : notDefer o = true) (hK : ∀ a w,K a w → K' a w) (h : o.wp P a w K (OnlyN Q)) : o.wpIn (Fence.wide.inRound r) n P a w K' Q':=by
 refine ⟨fun _ _ => trivial,?_⟩
 unfold Oper.wp at h
 rw [Fence.inRound_round,Oper.semAt_some r _ _ (notDefer_ne hnd)]
 generalize (execOp a.eval o).run P w = x at *
 cases x with
 | ok y w' =>
  cases y with
  | value v => exact hK _ _ h
  | skip => exact hK _ _ h
  | «defer» d => exact hK _ _ h
  | enter f args =>
   refine ⟨fun e => (by cases e),CallsIn.inRound r (callsIn_wide.2 (Calls.mono h fun e w'' he => ?_))⟩
   cases e with
   | returned v => exact hK _ _ he
   | panicked c => cases he.1
   | outgrown => exact (letsOut_onlyN he).elim
  | row row args =>
   refine ⟨fun e => (by cases e),fun c cs _ => ?_⟩
   obtain ⟨v,w2,h1,h2⟩:=h c cs
   exact ⟨v,w2,hK _ _ h1,stepsIn_wide.2 h2⟩
  | _ => exact h.elim
 | halt y w' =>
  cases y with
  | panic v => cases h.1
  | _ => exact h.elim
theorem list_round : ∀ {l : List Oper} {a : Act} {w : World},l.all notDefer = true → wpList P ops (OnlyN Q) l a w → wpListIn (Fence.wide.inRound r) n P ops Q l a w
 | [],a,w,_,h => h.2
 | o :: l,a,w,hnd,h => by
  rw [List.all_cons,Bool.and_eq_true] at hnd
  unfold wpList at h
  unfold wpListIn
  split at h
  ·rename_i hw
   rw [if_pos hw]
   rcases h with h | h
   ·exact oper_round hnd.1 (fun a w => list_round hnd.2) h
   ·exact (letsOut_onlyN h.2).elim
  ·rename_i hw
   rw [if_neg hw]
   exact ⟨fun _ _ => trivial,list_round hnd.2 h⟩
theorem any_round (hnd : ops.toList.all notDefer = true) : ∀ (fuel : Nat) (listed : Array Bool) (a : Act) (w : World),wpAny P .any ops (OnlyN Q) fuel listed a w → wpAnyIn (Fence.wide.inRound r) n P .any ops Q fuel listed a w
 | 0,listed,a,w,h => ⟨h.1,h.2.2⟩
 | fuel + 1,listed,a,w,h => by
  refine ⟨fun e => (h.1 e).2,fun i hi => ?_⟩
  have h2:=h.2 i hi
  unfold wpOp at h2
  unfold wpOpIn
  cases ho : ops[i]? with
  | none => rw [ho] at h2;exact any_round hnd fuel _ _ _ h2
  | some o =>
   rw [ho] at h2
   simp only at h2 ⊢
   have hmem : o ∈ ops.toList:=by
    obtain ⟨hlt,e⟩:=Array.getElem?_eq_some_iff.1 ho
    rw [← e];exact Array.getElem_mem_toList hlt
   split at h2
   ·rename_i hw
    rw [if_pos hw]
    rcases h2 with h3 | h3
    ·exact oper_round (List.all_eq_true.1 hnd o hmem) (fun a w => any_round hnd fuel _ a w) h3
    ·exact (letsOut_onlyN h3.2).elim
   ·rename_i hw
    rw [if_neg hw]
    exact ⟨fun _ _ => trivial,any_round hnd fuel _ _ _ h2⟩
theorem oper_monoQ {o : Oper} {a : Act} {w : World} {K K' : Act → World → Prop} (hK : ∀ a w,K a w → K' a w) (h : o.wp P a w K (OnlyN Q)) : o.wp P a w K' (OnlyN (OnlyN Q)):=by
 unfold Oper.wp at *
 generalize (execOp a.eval o).run P w = x at *
 cases x with
 | ok y w' =>
  cases y with
  | value v => exact hK _ _ h
  | skip => exact hK _ _ h
  | «defer» d => exact hK _ _ h
  | enter f args =>
   refine Calls.mono h fun e w'' he => ?_
   cases e with
   | returned v => exact hK _ _ he
   | panicked c => cases he.1
   | outgrown => exact (letsOut_onlyN he).elim
  | row row args => exact Rows.mono h (fun _ _ he => hK _ _ he)
  | _ => exact h.elim
 | halt y w' =>
  cases y with
  | panic v => cases h.1
  | _ => exact h.elim
theorem list_monoQ : ∀ {l : List Oper} {a : Act} {w : World},wpList P ops (OnlyN Q) l a w → wpList P ops (OnlyN (OnlyN Q)) l a w
 | [],a,w,h => ⟨rfl,h⟩
 | o :: l,a,w,h => by
  unfold wpList at h ⊢
  split at h
  ·rename_i hw
   rw [if_pos hw]
   rcases h with h | h
   ·exact .inl (oper_monoQ (fun a w => list_monoQ) h)
   ·exact (letsOut_onlyN h.2).elim
  ·rename_i hw
   rw [if_neg hw]
   exact list_monoQ h
end
theorem wpAny_planFI {P : Program} {Q : Exit → Act → World → Prop} {l : List Oper} {a0 : Act} {w0 : World} (m : Nat) (fl : List Nat) (dsts : List (Option Tmp)) (pre : List (List Nat)) (is : List Nat) (n : Nat) (VP : List Value → List (Value → World → Prop)) (I : (Nat → Bool) → (Nat → Value) → World → Prop)
  (hm : P.follows .mixedOrders = true) (hd : l.map (·.dst) = dsts) (hc : planOk l.toArray pre = true) (hT : tailOkB l pre m fl = true) (hmn : m ≤ l.length)
  (h0 : I (fun _ => false) (fun _ => undef) w0.drew) (his : List.range m = is)
  (h : ExL n fun vs => AllFrom (OpGoalV P dsts pre (VP vs) I a0) 0 (l.take m) ∧
   (∀ (L : Nat → Bool) (σ : Nat → Value) w,(∀ i ∈ is,L i = true) → I L σ w → PreF (VP vs) σ w is → wpList P l.toArray (OnlyN Q) (l.drop m) (putF dsts σ is a0) w)) :
  wpAny P .any l.toArray Q l.toArray.size (Array.replicate l.toArray.size false) a0 w0.drew:=by
 obtain ⟨vs,hops,hend⟩:=h.out
 generalize VP vs = VP at hops hend
 refine wpAny_planF (a0:=a0) (I:=fun L σ w => I L σ w ∧ ∀ i,i < m → L i = true → VP.getD i (fun _ _ => True) (σ i) w) m fl (tailOk_of hT) hc (fun i o him ho => ?_) (fun L σ a w hL ha hI => ?_) (by simpa using hmn) _ _ (fun _ => undef) a0 _ (by simp) (by simp) (fun i hi h => ?_) ?_ ?_ ?_
 ·have h:=AllFrom.get (l.take m) 0 hops i o (by rw [List.getElem?_take,if_pos him];simpa using ho)
  rw [Nat.zero_add] at h
  have hi : i < l.length:=by
   have:=(Array.getElem?_eq_some_iff.1 ho).1
   simpa using this
  have hlt : ∀ j ∈ pre.getD i [],j < l.length:=fun j hj => by
   have:=planOk_lt hc (by simpa using hi) hj
   omega
  have hlt2 : ∀ j ∈ pre.getD i [],j < m:=fun j hj => by
   have:=planOk_lt hc (by simpa using hi) hj
   omega
  intro L σ w h1 h2 h3 ⟨h4,h4'⟩
  have h5:=h L σ w h1 h2 h3 h4 (preF_of fun j hj => h4' j (hlt2 j hj) (h2 j hj))
  have hw : Region.wanted o (yielded l.toArray (seesOf l.toArray σ pre a0 i).tmps) = wantedL dsts (putF dsts σ (pre.getD i []) a0) o.guard:=by
   unfold seesOf
   rw [putAll_eq_putF hd _ hlt,wanted_eq_wantedL hd]
  have hs : (seesOf l.toArray σ pre a0 i).eval = (putF dsts σ (pre.getD i []) a0).eval:=by
   unfold seesOf
   rw [putAll_eq_putF hd _ hlt]
  rw [hw,hs]
  have key : ∀ v w',PostV (VP.getD i (fun _ _ => True)) (fun v => I (upd L i) (updv σ i v)) (fun w' => KeepAll σ L w w' 0 VP) v w' → I (upd L i) (updv σ i v) w' ∧ ∀ j,j < m → upd L i j = true → VP.getD j (fun _ _ => True) (updv σ i v j) w':=by
   intro v w' ⟨k1,k2,k3⟩
   refine ⟨k2,fun j hj hu => ?_⟩
   by_cases e : j = i
   ·subst e;rw [updv,if_pos rfl];exact k1
   ·rw [updv,if_neg e]
    have : L j = true:=by simpa [upd,e] using hu
    have hg:=KeepAll.get k3 j (by rw [Nat.zero_add];exact this) (by rw [Nat.zero_add];exact h4' j hj this)
    rw [Nat.zero_add] at hg
    exact hg
  split at h5
  ·rename_i hy
   rw [if_pos hy]
   exact h5.mono key
  ·rename_i hy
   rw [if_neg hy]
   exact key _ _ h5
 ·have hms : ∀ j ∈ List.range m,j < l.toArray.size:=by
   intro j hj
   have h1 : j < m:=by simpa using hj
   have h2 : l.toArray.size = l.length:=by simp
   omega
  have h1:=atPlan_putAll (vals:=σ) hc (List.range m) a0 (fun _ => false) (AtPlan.start l.toArray σ a0) hms
  have he : a = putAll l.toArray σ (List.range m) a0:=by
   refine AtPlan.same (L:=fun j => decide (j < m)) ⟨ha.defers,ha.size,fun i o t h1 h2 h3 h4 => ha.new i o t h1 h2 (by rw [hL];exact h3) h4,fun t ht => ha.old t fun i o h1 h2 => by rw [hL];exact ht i o h1 h2⟩ ?_
   simpa using h1
  rw [he,putAll_eq_putF hd _ (fun i hi => by have:=hms i hi;simpa using this)]
  subst his
  exact hend L σ w (fun i hi => by rw [hL];simpa using hi) hI.1 (preF_of fun j hj => hI.2 j (by simpa using hj) (by rw [hL];simpa using hj))
 ·simp [Array.getD] at h
 ·refine ⟨rfl,rfl,fun i o t h1 _ h3 _ => ?_,fun t _ => rfl⟩
  have hi:=(Array.getElem?_eq_some_iff.1 h1).1
  simp [Array.getD,hi] at h3
 ·have : (fun j => (Array.replicate l.toArray.size false).getD j false) = fun _ => false:=by
   funext j
   simp [Array.getD]
  rw [this]
  exact ⟨h0,fun i _ h => by cases h⟩
 ·intro i _
  simp [Array.getD]
theorem wp_planFR {P : Program} {Q : Exit → Act → World → Prop} {id r k : Nat} {l : List Oper} {a0 : Act} {w0 : World} (m : Nat) (fl : List Nat) (dsts : List (Option Tmp)) (pre : List (List Nat)) (is : List Nat) (n : Nat) (VP : List Value → List (Value → World → Prop)) (I : (Nat → Bool) → (Nat → Value) → World → Prop)
  (hnd : l.all notDefer = true) (hm : P.follows .mixedOrders = true) (hd : l.map (·.dst) = dsts) (hc : planOk l.toArray pre = true) (hT : tailOkB l pre m fl = true) (hmn : m ≤ l.length)
  (h0 : I (fun _ => false) (fun _ => undef) w0.drew) (his : List.range m = is)
  (h : ExL n fun vs => AllFrom (OpGoalV P dsts pre (VP vs) I a0) 0 (l.take m) ∧
   (∀ (L : Nat → Bool) (σ : Nat → Value) w,(∀ i ∈ is,L i = true) → I L σ w → PreF (VP vs) σ w is → wpList P l.toArray (OnlyN Q) (l.drop m) (putF dsts σ is a0) w)) :
  (Code.region id l.toArray true).wpIn (Fence.wide.inRound r) k P Q a0 w0:=by
 refine wpIn_region_any hm (any_round (by simpa using hnd) _ _ _ _ ?_)
 obtain ⟨vs,hops,hend⟩:=h.out
 exact wpAny_planFI (Q:=OnlyN Q) m fl dsts pre is 0 (fun _ => VP vs) I hm hd hc hT hmn h0 his ⟨hops,fun L σ w h1 h2 h3 => list_monoQ (hend L σ w h1 h2 h3)⟩
section
variable {P : Program}
theorem wp_planRR {Q : Exit → Act → World → Prop} {id r n : Nat} {l : List Oper} {a0 : Act} {w0 : World} (m : Nat) (fl : List Nat) (dsts : List (Option Tmp)) (pre : List (List Nat)) (is : List Nat)
  (hnd : l.all notDefer = true) (hm : P.follows .mixedOrders = true) (hd : l.map (·.dst) = dsts) (hc : planOk l.toArray pre = true) (hT : tailOkB l pre m fl = true) (hmn : m ≤ l.length) (his : List.range m = is)
  (h : ExL m fun vs => vs.length = m ∧ AllFrom (OpGoalQ P dsts pre vs w0.drew a0) 0 (l.take m) ∧
   (∀ (σ : Nat → Value),PreF (vs.map isV) σ w0.drew is → wpList P l.toArray (OnlyN Q) (l.drop m) (putF dsts σ is a0) w0.drew)) :
  (Code.region id l.toArray true).wpIn (Fence.wide.inRound r) n P Q a0 w0:=by
 obtain ⟨vs,hl,h1,h2⟩:=h.out
 have hgd : ∀ i,i < m → (vs.map isV).getD i (fun _ _ => True) = isV (vs.getD i undef):=fun i hi => by
  rw [List.getD_eq_getElem?_getD,List.getElem?_map,List.getD_eq_getElem?_getD]
  have : i < vs.length:=by omega
  rw [List.getElem?_eq_getElem this];rfl
 refine wp_planFR m fl dsts pre is 0 (fun _ => vs.map isV) (fun _ _ V => V = w0.drew) hnd hm hd hc hT hmn rfl his ?_
 show _ ∧ _
 refine ⟨allFrom_imp _ _ (fun j o hj hp => ?_) h1,?_⟩
 ·have hjm : j < m:=by
   rcases Nat.lt_or_ge j m with h | h
   ·exact h
   ·rw [List.getElem?_eq_none (by rw [List.length_take];omega)] at hj;cases hj
  intro L σ w hL1 hL2 hL3 hI hpre
  subst hI
  have:=hp σ hpre
  simp only [Nat.zero_add] at this ⊢
  split
  ·next hw =>
   rw [if_pos hw] at this
   refine this.mono ?_
   rintro v w' ⟨hv,hw'⟩
   subst hw'
   exact ⟨by rw [hgd j hjm];exact hv,rfl,KeepAll.refl⟩
  ·next hw =>
   rw [if_neg hw] at this
   exact ⟨by rw [hgd j hjm];exact this.1,rfl,KeepAll.refl⟩
 ·intro L σ w hL hI hpre
  subst hI
  exact h2 σ hpre
theorem wp_planAR {Q : Exit → Act → World → Prop} {id r n0 : Nat} {l : List Oper} {a0 : Act} {w0 : World} (b : World) (n m : Nat) (fl : List Nat) (dsts : List (Option Tmp)) (pre : List (List Nat)) (is : List Nat)
  (hnd : l.all notDefer = true) (hm : P.follows .mixedOrders = true) (hd : l.map (·.dst) = dsts) (hc : planOk l.toArray pre = true) (hT : tailOkB l pre m fl = true) (hmn : m ≤ l.length) (hn : n < m) (his : List.range m = is)
  (h : ExL m fun vs => vs.length = m ∧ AllFrom (OpGoalA P dsts pre vs w0.drew b n a0) 0 (l.take m) ∧
   (∀ (σ : Nat → Value),PreF (vs.map isV) σ w0.drew is → wpList P l.toArray (OnlyN Q) (l.drop m) (putF dsts σ is a0) b)) :
  (Code.region id l.toArray true).wpIn (Fence.wide.inRound r) n0 P Q a0 w0:=by
 obtain ⟨vs,hl,h1,h2⟩:=h.out
 have hgd : ∀ i,i < m → (vs.map isV).getD i (fun _ _ => True) = isV (vs.getD i undef):=fun i hi => by
  rw [List.getD_eq_getElem?_getD,List.getElem?_map,List.getD_eq_getElem?_getD]
  have : i < vs.length:=by omega
  rw [List.getElem?_eq_getElem this];rfl
 refine wp_planFR m fl dsts pre is 0 (fun _ => vs.map isV) (fun L _ V => V = if L n = true then b else w0.drew) hnd hm hd hc hT hmn rfl his ?_
 show _ ∧ _
 refine ⟨allFrom_imp _ _ (fun j o hj hp => ?_) h1,?_⟩
 ·have hjm : j < m:=by
   rcases Nat.lt_or_ge j m with h | h
   ·exact h
   ·rw [List.getElem?_eq_none (by rw [List.length_take];omega)] at hj;cases hj
  intro L σ w hL1 hL2 hL3 hI hpre
  have:=hp σ (preF_isV hpre)
  simp only [Nat.zero_add] at this hL1 ⊢
  by_cases hjn : j = n
  ·subst hjn
   rw [if_pos rfl] at this
   rw [hL1] at hI
   simp only [Bool.false_eq_true,if_false] at hI
   subst hI
   rw [if_pos this.1]
   refine this.2.mono ?_
   rintro v w' ⟨hv,hw'⟩
   subst hw'
   exact ⟨by rw [hgd j hjm];exact hv,by simp [upd],keepAll_isV _ _⟩
  ·rw [if_neg hjn] at this
   have hu : upd L j n = L n:=by unfold upd;simp [Ne.symm hjn]
   split
   ·next hw =>
    rw [if_pos hw] at this
    by_cases hLn : L n = true
    ·rw [if_pos hLn] at hI;subst hI
     refine this.2.mono ?_
     rintro v w' ⟨hv,hw'⟩
     subst hw'
     exact ⟨by rw [hgd j hjm];exact hv,by rw [hu,if_pos hLn],keepAll_isV _ _⟩
    ·rw [if_neg hLn] at hI;subst hI
     refine this.1.mono ?_
     rintro v w' ⟨hv,hw'⟩
     subst hw'
     exact ⟨by rw [hgd j hjm];exact hv,by rw [hu,if_neg hLn],keepAll_isV _ _⟩
   ·next hw =>
    rw [if_neg hw] at this
    exact ⟨by rw [hgd j hjm,this];rfl,by rw [hu];exact hI,keepAll_isV _ _⟩
 ·intro L σ w hL hI hpre
  have : L n = true:=hL n (by rw [← his];simpa using hn)
  rw [if_pos this] at hI
  subst hI
  exact h2 σ (preF_isV hpre)
end
end Go.Proofs.YtfdillpofciicaaGreatDoor
namespace Go.Proofs.YtfdillpofciicaaGreatDoor
open Go Go.RowKit Go.Shelf
attribute [local go_sem] AllFrom.cons_eq AllFrom.nil_eq putF_nil putF_cons wantedL_none wantedL_some OpGoalT OpGoalV OpGoalQ OpGoalA YieldsR preF_nil preF_cons
attribute [local go_sem] Oper.semAt_some
set_option maxRecDepth 20000 in
theorem lines_any (t : Bs) (w : World) : Calls Tryz.prog 69 #[str t] w fun e w' => e = .returned (.func (.func 118) #[] #[.pointer (some ⟨w.heap.size,0,none⟩)]) ∧ w' = w.alloc (.cells #[str t] 9):=by
 unfold str
 go_enter Tryz.func69,Tryz.ntmps69
 go_wp2
 go_ret
 exact ⟨rfl,rfl⟩
def strLen (w : World) (c : Nat) : Nat:=match w.cell? ⟨c,0,none⟩ with | some (.string s) => s.size | _ => 0
theorem strLen_eq {w : World} {c : Nat} {u : Bs} (h : w.heap[c]? = some (.cells #[str u] 9 (0,0))) : strLen w c = u.length:=by
 have e:=blk_cell h 0
 simp only [eA,eZ] at e
 unfold strLen
 rw [e]
 exact str_size u
theorem str_take (u : Bs) (m : Nat) : (⟨u.toArray⟩ : ByteArray).extract 0 m = ⟨(u.take m).toArray⟩:=by
 apply ByteArray.ext
 simp [ByteArray.data_extract]
theorem str_drop (u : Bs) (m : Nat) : (⟨u.toArray⟩ : ByteArray).extract m u.length = ⟨(u.drop m).toArray⟩:=by
 apply ByteArray.ext
 simp only [ByteArray.data_extract,List.extract_toArray,List.extract_eq_take_drop]
 rw [List.take_of_length_le (by rw [List.length_drop];omega)]
set_option maxRecDepth 20000 in
set_option maxHeartbeats 4000000 in
theorem lines_seq (n : Nat) (c : Nat) (t : Bs) (ht : t.length ≤ 4611686018427387904) : SeqC Fence.wide n Tryz.prog 118 #[.pointer (some ⟨c,0,none⟩)] str c (fun o => ∃ u : Bs,o = .cells #[str u] 9 (0,0)) (.cells #[str t] 9 (0,0)) (lns t):=by
 intro l J W hlt hlc hc hJ hY h0
 refine callsIn_of_wp Tryz.func118 rfl trivial (wpIn_wide.2 ?_) rfl
 simp only [Tryz.ntmps118,List.size_toArray,List.length_cons,List.length_nil,Nat.reduceAdd,Nat.reduceSub,Array.replicate_succ,Array.replicate_zero,List.push_toArray,List.append_toArray,List.nil_append,List.cons_append]
 obtain ⟨Hlt,Hlc,Hc,HJ,HY,H0⟩:=hid6 hlt hlc hc hJ hY h0
 clear hlt hlc hc hJ hY h0
 go_wp2_with fail
 go_loopw [3,4] (fun v3 v4 wr => ∃ (pre : List Bs) (u : Bs),lns t = pre ++ lns u ∧ J pre wr ∧ wr.heap[c]? = some (.cells #[str u] 9 (0,0)) ∧ u.length ≤ t.length) (fun _ _ wr => strLen wr c)
 case atStart => exact ⟨[],t,rfl,H0.out,Hc.out,Nat.le_refl _⟩
 case round =>
  obtain ⟨pre,u,hpre,hJp,hcu,hul⟩:=hrel
  have hmeas:=strLen_eq hcu
  have e0:=blk_cell hcu 0
  simp only [eA,eZ] at e0
  have el:=blk_lt hcu
  have hfz:=blk_free hcu 0
  by_cases hu : u = []
  ·subst hu
   rw [lns_nil,List.append_nil] at hpre
   have hfin : (∃ v : Value,Ending.returned (.tuple #[]) = .returned v) ∧ J (lns t) wr:=⟨⟨_,rfl⟩,by rw [hpre];exact hJp⟩
   unfold str at e0
   have Hfin:=Lib.hid hfin
   clear hfin
   clear hpre hJp hmeas hcu
   go_wp2
   refine bodyPost_end (v:=.tuple #[]) ?_ rfl Hfin.out
   unfold results;try go_simp
  ·have hpos : 0 < u.length:=List.length_pos_iff.2 hu
   have HI:=Lib.hid (indexByte_any u 10)
   unfold str at e0
   have hge:=Lib.indexByte_ge u 10
   by_cases hi : 0 ≤ Lib.indexByte u 10
   ·obtain ⟨m,hm⟩ : ∃ m : Nat,Lib.indexByte u 10 = (m : Int):=⟨(Lib.indexByte u 10).toNat,by omega⟩
    have hml : m < u.length:=by
     have h1:=(Lib.indexByte_some hm).1
     exact (List.getElem?_eq_some_iff.1 h1).1
    have hcut:=lns_cut hm hu
    rw [hm] at HI
    obtain ⟨W1,hW1⟩ : ∃ W1,wr.drew.setCell ⟨c,0,none⟩ (.string ⟨(u.drop (m + 1)).toArray⟩) = W1:=⟨_,rfl⟩
    have hmod : Mod [c] wr W1:=by rw [← hW1];exact (Mod.refl [c] wr).drew.setCell (.inl (by simp)) _
    have hc1 : W1.heap[c]? = some (.cells #[str (u.drop (m + 1))] 9 (0,0)):=by rw [← hW1];exact blk_set (blk_drew hcu) 0 _
    have hJ1:=HJ.out _ _ _ hJp hmod
    obtain ⟨fn,tmps,assign,body,hy,hR⟩:=HY.out pre (u.take (m + 1)) (lns (u.drop (m + 1))) W1 (by rw [hpre,hcut]) hJ1 ⟨_,hc1,_,rfl⟩
    have hpre2 : lns t = (pre ++ [u.take (m + 1)]) ++ lns (u.drop (m + 1)):=by rw [hpre,hcut];simp
    unfold str at hy
    have hwr : IntKind.i64.wrap ((m : Int) + 1) = (m : Int) + 1:=IntWalk.i64_in _ (by omega)
    have hmn : (m : Int) + 1 ≤ (u.length : Int):=by omega
    have hst:=str_take u (m + 1)
    have hsd:=str_drop u (m + 1)
    obtain ⟨HR,Hpre,HJp,Hcu,Hmeas,Hmod,Hc1,HJ1,Hpre2,Hcut,Hy⟩:=hid11 hR hpre hJp hcu hmeas hmod hc1 hJ1 hpre2 hcut hy
    clear hR hpre hJp hcu hmeas hmod hc1 hJ1 hpre2 hcut hy
    clear hge hu hm hi
    go_wp2_with fail
    refine (HI.out _).mono ?_
    rintro e w2 ⟨rfl,rfl⟩
    go_wp2_with fail
    refine wp_planS [some 12,some 13,some 14,some 15,some 16,some 17,some 18,some 19,some 3,none] [[],[],[1],[0,1,2],[],[],[5],[4,5,6],[0,1,2,3],[0,1,2,3,4,5,6,7,8]] [0,1,2,3,4,5,6,7,8,9] 10 9 mixed rfl (by kernel_rfl) (by decide) rfl ?_ (by decide)
    iterate 11 apply Exists.intro
    refine ⟨rfl,?_,?_⟩
    ·simp only [AllFrom.cons_eq,AllFrom.nil_eq,OpGoalS]
     refine ⟨?_,?_,?_,?_,?_,?_,?_,?_,?_,?_,trivial⟩
     all_goals (intro σ hp;(try simp only [gZ,gS,mC,mN,preF_cons,preF_nil,isV,and_true] at hp);(first | (have hq : True:=hp;clear hq hp) | skip))
     all_goals (go_simp;exact ⟨rfl,rfl⟩)
    intro σ hp
    simp only [gZ,gS,mC,mN,preF_cons,preF_nil,isV,and_true] at hp
    go_simp
    clear hp
    clear hW1 hst hsd hwr hmn e0 el hfz
    apply_assumption
    refine (wpIn_wide (n:=n)).1 ?_
    have hy:=Hy.out
    gi_wp2_with fail
    refine ⟨fun h => (by simp [Fence.wide] at h),HR.out.mono ?_⟩
    rintro e W3 ⟨rfl,hJ3,hc3⟩
    have hc3':=hc3.trans Hc1.out
    have hm3:=strLen_eq hc3'
    obtain ⟨HJ3,Hc3,Hm3⟩:=hid3 hJ3 hc3' hm3
    clear hJ3 hc3' hm3
    clear hy hc3
    gi_wp2
    go_roundw
    case rel => exact ⟨pre ++ [u.take (m + 1)],u.drop (m + 1),Hpre2.out,HJ3.out,Hc3.out,by rw [List.length_drop];omega⟩
    case measure => rw [Hm3.out,Hmeas.out,List.length_drop];omega
   ·have hm : Lib.indexByte u 10 = -1:=by omega
    have hcut:=lns_last hm hu
    rw [hm] at HI
    obtain ⟨W1,hW1⟩ : ∃ W1,wr.setCell ⟨c,0,none⟩ (.string ⟨([] : Bs).toArray⟩) = W1:=⟨_,rfl⟩
    have hmod : Mod [c] wr W1:=by rw [← hW1];exact (Mod.refl [c] wr).setCell (.inl (by simp)) _
    have hc1 : W1.heap[c]? = some (.cells #[str []] 9 (0,0)):=by rw [← hW1];exact blk_set hcu 0 _
    have hJ1:=HJ.out _ _ _ hJp hmod
    obtain ⟨fn,tmps,assign,body,hy,hR⟩:=HY.out pre u [] W1 (by rw [hpre,hcut]) hJ1 ⟨_,hc1,_,rfl⟩
    have hpre2 : lns t = (pre ++ [u]) ++ lns []:=by rw [hpre,hcut,lns_nil];simp
    unfold str at hy
    obtain ⟨HR,Hpre,HJp,Hcu,Hmeas,Hmod,Hc1,HJ1,Hpre2,Hcut,Hy⟩:=hid11 hR hpre hJp hcu hmeas hmod hc1 hJ1 hpre2 hcut hy
    clear hR hpre hJp hcu hmeas hmod hc1 hJ1 hpre2 hcut hy
    clear hge hu hm hi
    refine (wpIn_wide (n:=n)).1 ?_
    have hy:=Hy.out
    gi_wp2_with fail
    refine ⟨trivial,fun h => (by simp [Fence.wide] at h),(callsIn_wide.2 (HI.out _)).mono ?_⟩
    rintro e w2 ⟨rfl,rfl⟩
    gi_wp2_with fail
    refine ⟨fun h => (by simp [Fence.wide] at h),HR.out.mono ?_⟩
    rintro e W3 ⟨rfl,hJ3,hc3⟩
    have hc3':=hc3.trans Hc1.out
    have hm3:=strLen_eq hc3'
    obtain ⟨HJ3,Hc3,Hm3⟩:=hid3 hJ3 hc3' hm3
    clear hJ3 hc3' hm3
    clear hy hc3
    gi_wp2
    go_roundw
    case rel => exact ⟨pre ++ [u],[],Hpre2.out,HJ3.out,Hc3.out,by simp⟩
    case measure => rw [Hm3.out,Hmeas.out];exact hpos
end Go.Proofs.YtfdillpofciicaaGreatDoor
namespace Go.Proofs.YtfdillpofciicaaGreatDoor
open Go Go.RowKit
attribute [local go_sem] ByteArray.mk_append_mk
theorem nums_snoc (l : List Int) (n : Int) : nums (l ++ [n]) = nums l ++ 32 :: Lib.itoa n:=by simp [nums]
theorem nums_take (l : List Int) (k : Nat) (h : k < l.length) : nums (l.take (k + 1)) = nums (l.take k) ++ 32 :: Lib.itoa l[k]:=by
 rw [take_succ_get l k h,nums_snoc]
theorem nums_len : ∀ {l : List Int},(∀ n ∈ l,InR n) → (nums l).length ≤ 22 * l.length
 | [],_ => by simp [nums]
 | n :: l,h => by
  have h1:=nums_len (l:=l) (fun m hm => h m (by simp [hm]))
  have hn:=h n (by simp)
  have h2:=Lib.itoa_length_le n hn.1 hn.2
  unfold nums at *
  rw [List.flatMap_cons,List.length_append,List.length_cons,List.length_cons]
  omega
set_option maxRecDepth 20000 in
theorem line_any {w : World} {A : Option Addr} {c : Nat} {l : List Int} (s : Bs) (hL : LaidV w) (hl : s.length + 22 * l.length ≤ 9223372036854775807) (hA : Lies w w.heap.size A (ints l)) (hin : ∀ n ∈ l,InR n) :
  Calls Tryz.prog 22 #[str s,.slice A l.length c] w fun e w' => e = .returned (str (s ++ nums l)) ∧ Below w.heap.size w w':=by
 obtain ⟨HL,HA,Hin⟩:=hid3 hL hA hin
 clear hL hA hin
 unfold str
 go_enter Tryz.func22,Tryz.ntmps22
 go_wp2
 go_loopw [0,6,9] (fun u x i wr => ∃ k : Nat,k ≤ l.length ∧ u = .string ⟨(s ++ nums (l.take k)).toArray⟩ ∧ i = .int .i64 k ∧ Below w.heap.size w wr) (fun u x i wr => l.length - (Go.RowKit.intOf i).toNat)
 case atStart => exact ⟨0,by omega,by simp [nums],rfl,Below.refl _ _⟩
 case round =>
  obtain ⟨k,hk,rfl,rfl,hB⟩:=hrel
  by_cases hlt : k < l.length
  ·obtain ⟨a,rfl,hal,hc⟩:=(HA.out.below hB).int hlt
   have hx:=Hin.out _ (List.getElem_mem hlt)
   have hs:=nums_take l k hlt
   generalize l[k] = x at *
   have H1:=Lib.hid (fun V (hb : Below w.heap.size w V) => itoa_any (w:=V) hx.1 hx.2 (HL.out.below hb))
   have hlen:=nums_len (l:=l.take k) (fun n hn => Hin.out n (List.mem_of_mem_take hn))
   rw [List.length_take] at hlen
   have hlx:=Lib.itoa_length_le x hx.1 hx.2
   have hno : ¬ 9223372036854775807 < s.length + (nums (l.take k)).length + ((Lib.itoa x).length + 1):=by omega
   have hno2 : ¬ 9223372036854775807 < 1 + (Lib.itoa x).length:=by omega
   obtain ⟨Hs,HB,Hx,Hlen,Hlx⟩:=hid5 hs hB hx hlen hlx
   clear hs hB hx hlen hlx
   go_wp2_with fail
   refine (H1.out _ HB.out).mono ?_
   rintro e w2 ⟨rfl,hb2⟩
   unfold str
   have hB2:=HB.out.trans (hb2.mono HB.out.size)
   have HB2:=Lib.hid hB2
   clear hB2
   clear hb2
   go_wp2
   go_roundw
   case rel => exact ⟨k + 1,by omega,by rw [Hs.out],by go_num,HB2.out⟩
   case measure => simp [Go.RowKit.intOf];omega
  ·obtain rfl : k = l.length:=by omega
   rw [List.take_length]
   have HB:=Lib.hid hB
   clear hB
   go_wp2
   go_ret
   exact ⟨rfl,HB.out⟩
theorem Lies.str_ {w : World} {B : Nat} {A : Option Addr} {ws : List Bs} (h : Lies w B A (ws.map str)) {k : Nat} (hk : k < ws.length) : ∃ a,A = some a ∧ a.block < B ∧ w.cell? (a.add k) = some (str ws[k]):=by
 obtain ⟨a,h1,h2,h3⟩:=h.at_ (k:=k) (by rw [List.length_map];exact hk)
 rw [List.getElem_map] at h3
 exact ⟨a,h1,h2,h3⟩
set_option maxRecDepth 20000 in
set_option maxHeartbeats 1000000 in
theorem numbers_any {w : World} {A : Option Addr} {c : Nat} {ws : List Bs} (hL : LaidV w) (hl : ws.length < 8796093022208) (hb : ∀ x ∈ ws,x.length ≤ 281474976710656) (hA : Lies w w.heap.size A (ws.map str)) :
  Calls Tryz.prog 71 #[.slice A ws.length c] w (MadeInts w.heap.size (ws.map num0) w):=by
 obtain ⟨HL,HA,Hb⟩:=hid3 hL hA hb
 clear hL hA hb
 go_enter Tryz.func71,Tryz.ntmps71
 go_wp2
 go_loopw [3,5,6,7,10] (fun v x n e i wr => ∃ k : Nat,k ≤ ws.length ∧ i = .int .i64 k ∧ wr.ownsRow w.heap.size 3 1 v k (ints ((ws.take k).map num0)) ∧ Below w.heap.size w wr) (fun v x n e i wr => ws.length - (Go.RowKit.intOf i).toNat)
 case atStart => exact ⟨0,by omega,rfl,⟨rfl,.inl ⟨rfl,rfl⟩⟩,Below.refl _ _⟩
 case round =>
  obtain ⟨k,hk,rfl,hown,hB⟩:=hrel
  by_cases hlt : k < ws.length
  ·obtain ⟨a,rfl,hal,hc⟩:=(HA.out.below hB).str_ hlt
   have hx:=Hb.out _ (List.getElem_mem hlt)
   have hs:=take_succ_get ws k hlt
   have hlk : ((ws.take k).map num0).length = k:=by rw [List.length_map,List.length_take];omega
   generalize ws[k] = x at *
   have H1:=Lib.hid (fun V (hb : Below w.heap.size w V) => atoi_any x (w:=V) (HL.out.below hb) hx)
   obtain ⟨Hs,HB,Hx,Hown,Hlk⟩:=hid5 hs hB hx hown hlk
   clear hs hB hx hown hlk
   go_wp2_with fail
   refine (H1.out _ HB.out).mono ?_
   rintro e w2 ⟨u,rfl,hu,hb2⟩
   have hB2:=HB.out.trans (hb2.mono HB.out.size)
   have hown2:=row_mod Hown.out (Mod.ofBelow hb2) (by simp)
   generalize hy : num0 x = y at *
   have Hy:=Lib.hid hy
   clear hy
   have hsz:=hB2.size
   have HB2:=Lib.hid hB2
   clear hB2
   clear hb2 H1
   go_wp2_with (at_builtin;refine app_int rfl _ _ rfl w.heap.size _ ((ws.take k).map num0) y ⟨w2.heap.size,0,none⟩ 1 rfl (by rw [Hlk.out];exact hown2.alloc _) rfl (by simp) (by rw [Hlk.out];omega) (by simp;omega) ?_;intro v' w1 hown3 hb1)
   go_roundw
   case rel => exact ⟨k + 1,by omega,by go_num,by rw [Hs.out,List.map_append,List.map_cons,List.map_nil,Hy.out];rw [List.length_append,Hlk.out] at hown3;exact hown3,(HB2.out.alloc hsz _).trans hb1⟩
   case measure => simp [Go.RowKit.intOf];omega
  ·obtain rfl : k = ws.length:=by omega
   rw [List.take_length] at hown
   obtain ⟨HB,Hown⟩:=hid2 hB hown
   clear hB hown
   go_wp2
   go_ret
   exact ⟨_,rfl,by rw [List.length_map];exact Hown.out,HB.out⟩
end Go.Proofs.YtfdillpofciicaaGreatDoor
