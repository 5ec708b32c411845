import Derived.RangeFuncNested
import Derived.RangeFuncBound
import Derived.RangeFuncCalls
import Derived.Test.YtfdillpofciicaaGreatDoorTopSavedJ19
import Derived.RangeFuncLeaves
import Derived.Shelf.Abstract
import Derived.Shelf.RegionOpen
import Derived.OwnWalkIn
import Derived.TacticsInMore
import Derived.LoopNIn
import Derived.LoopIn
set_option linter.unusedVariables false
set_option linter.unusedSimpArgs false
/- A part of the proof that TopSaved returns true. -/
namespace Go.Proofs.YtfdillpofciicaaGreatDoor
open Go Go.RowKit
theorem Mod.putObj {F : List Nat} {a w : World} (h : Mod F a w) {l : Nat} (hl : l ∈ F ∨ a.heap.size ≤ l) (o : Obj) : Mod F a (w.putObj l o) :=
 h.trans (G:=[l]) ⟨rfl,rfl,rfl,by simp,fun k _ hk => World.putObj_heap_other (by simpa using hk)⟩ (by simpa using hl)
theorem below_putObj {B : Nat} {W : World} {l : Nat} (o : Obj) (hl : B ≤ l) : Below B W (W.putObj l o) :=
 ⟨rfl,rfl,rfl,by simp,fun k hk => World.putObj_heap_other (by omega)⟩
def ClB {β : Type} (n : Nat) (J : β → World → Prop) : Prop:=∀ s A B,J s A → Below n A B → J s B
def YieldR {α : Type} (l : Nat) (J Jx : List α → World → Prop) (pre : List α) (x : α) (W : World) (e : Ending) (W' : World) : Prop :=
 (e = .returned (.bool true) ∧ J (pre ++ [x]) W' ∧ Mod [l] W W') ∨ (e = .returned (.bool false) ∧ Jx (pre ++ [x]) W')
def SeqR {α : Type} (F : Fence) (n : Nat) (P : Program) (g : Nat) (lb : Array Value) (encs : α → Array Value) (S Sp : List α → Prop) (N : Nat) (w : World) : Prop :=
 ∀ (l : Nat) (J Jx : List α → World → Prop) (W : World),Below w.heap.size w W → w.heap.size ≤ l → l < W.heap.size → ClB W.heap.size J →
  (∀ pre x W1,J pre W1 → pre.length < N → YieldAt F (n - 1) P l (encs x) W1 (YieldR l J Jx pre x W1)) → J [] W →
  CallsIn F n P g (#[.func (.yield l) #[] #[]] ++ lb) W fun e W' => (∃ v,e = .returned v) ∧ ((∃ xs,S xs ∧ J xs W') ∨ (∃ pre,Sp pre ∧ Jx pre W'))
def HighKept (B : Nat) (W W' : World) : Prop:=∀ k o,B ≤ k → W.heap[k]? = some o → W'.heap[k]? = some o
def postR {α : Type} (B : Nat) (I : List α → World → Prop) (Ix : Code → List α → World → Prop) (xs : List α) (W : World) : Exit → Act → World → Prop
 | .normal,_,W' => Mod [] W W' ∧ I xs W'
 | .ret,_,W' => HighKept B W W' ∧ Ix .ret xs W'
 | .exit id,_,W' => HighKept B W W' ∧ Ix (.exit id) xs W'
 | .goto t,_,W' => HighKept B W W' ∧ Ix (.goto t) xs W'
 | .panic _,_,_ => False
 | .outgrown,_,_ => False
def ClC {α : Type} (Ax : α → Act → World → Prop) : Prop:=∀ x a' (A B : World),Ax x a' A → A.heap.size ≤ B.heap.size → (∀ (k : Nat) (o : Obj),A.heap[k]? = some o → o.isCells = true → B.heap[k]? = some o) → Ax x a' B
variable {F : Fence} {n : Nat} {P : Program}
theorem wp_rangeR {α : Type} {g : Operand} {ps : Array Tmp} {assign body : Code} {Q : Exit → Act → World → Prop} {a : Act} {w : World}
  (hro : F.round = none) (h1 : 1 ≤ n) {gf : Nat} {lb : Array Value} (hg : a.eval g = .func (.func gf) #[] lb) (hFg : F.fn gf) (eg : ∀ args w,(callFunc gf args).run P w = .ok (.enter gf args) w)
  {encs : α → Array Value} {S Sp : List α → Prop} {N : Nat} {w0 : World} (hseq : SeqR F (n - 1) P gf lb encs S Sp N w0) (hb0 : Below w0.heap.size w0 w) (hps : ∀ x,(encs x).size = ps.size)
  (I : List α → World → Prop) (Ix : Code → List α → World → Prop) (hI : ClB w.heap.size I) (hIx : ∀ c,ClB w.heap.size (Ix c)) (h0 : I [] w) (Ax : α → Act → World → Prop) (hAx : ClC Ax)
  (hassign : ∀ (l : Nat) (pre : List α) (x : α) (W : World) (K : Act → World → Prop),w.heap.size ≤ l → I pre W → (∀ a' W',Mod [] W W' → Ax x a' W' → K a' W') →
   assign.wpIn (F.inRound l) (n - 1 - 1) P (Exit.then K (fun _ _ _ => False)) { tmps:=(ps.zip (encs x)).foldl (fun t (p,v) => t.setIfInBounds p v) a.tmps,defers:=[] } W)
  (hbody : ∀ (l : Nat) (pre : List α) (x : α) (a' : Act) (W : World),w.heap.size ≤ l → I pre W → Ax x a' W → pre.length < N → body.wpIn (F.inRound l) (n - 1 - 1) P (postR w.heap.size I Ix (pre ++ [x]) W) a' W)
  (hdone : ∀ (D : Nat) (xs : List α) (W : World),w.heap.size ≤ D → S xs → I xs W → W.heap[D]? = some (.deferred (some [])) → Q .normal { a with defers:={ target:=.collected D,args:=#[] } :: a.defers } W)
  (hstop : ∀ (D : Nat) (c : Code) (pre : List α) (W : World),w.heap.size ≤ D → Sp pre → Ix c pre W → W.heap[D]? = some (.deferred (some [])) → c.wpIn F n P Q { a with defers:={ target:=.collected D,args:=#[] } :: a.defers } W) :
  (Code.rangeFunc g ps assign body).wpIn F n P Q a w:=by
 refine wpIn_rangeFunc ?_
 intro fn hfn
 rw [hro]
 obtain ⟨rec,hrec⟩ : ∃ rec : LoopState → Option Code → Loop,rec = fun st pe => { state:=st,pending:=pe,fn,tmps:=a.tmps,params:=ps,assign,body,defers:=w.heap.size }:=⟨_,rfl⟩
 obtain ⟨W1,hW1⟩ : ∃ W1,(w.alloc (.deferred (some []))).alloc (.loop (rec .ready none)) = W1:=⟨_,rfl⟩
 have hL1 : W1.heap[w.heap.size + 1]? = some (.loop (rec .ready none)):=by
  rw [← hW1];have:=World.alloc_heap_new (w.alloc (.deferred (some []))) (.loop (rec .ready none));rwa [World.size_alloc] at this
 have hK1 : W1.heap[w.heap.size]? = some (.deferred (some [])):=by
  rw [← hW1];exact (Below.heap_alloc _ _ _ (by simp)).trans (World.alloc_heap_new w _)
 have hbw : Below w.heap.size w W1:=by
  rw [← hW1];exact ((Below.refl _ w).alloc (Nat.le_refl _) _).alloc (by simp) _
 have hI1 : I [] W1:=hI _ _ _ h0 hbw
 have hb1 : Below w0.heap.size w0 W1:=hb0.trans (hbw.mono hb0.size)
 have hs1 : W1.heap.size = w.heap.size + 2:=by rw [← hW1];simp
 have hs0:=hb0.size
 refine ⟨w.heap.size + 1,[{ target:=.collected w.heap.size,args:=#[] }],W1,{ target:=.fn (.func gf) lb,args:=#[.func (.yield (w.heap.size + 1)) #[] #[]] },W1,gf,
  #[.func (.yield (w.heap.size + 1)) #[] #[]] ++ lb,W1,?_,?_,?_,?_,fun _ => h1,?_⟩
 ·rw [← hW1,hrec];exact run_enterLoop_outer _ _ _ _ _
 ·simp only [resolve,hg]
  simp [go_sem]
 ·intro f' hf';simp [Target.leads] at hf';subst hf';exact hFg
 ·simp [invoke,go_sem,eg]
 ·refine (hseq (w.heap.size + 1)
   (fun pre W => I pre W ∧ W.heap[w.heap.size + 1]? = some (.loop (rec .ready none)) ∧ W.heap[w.heap.size]? = some (.deferred (some [])))
   (fun pre W => ∃ c,Ix c pre W ∧ W.heap[w.heap.size + 1]? = some (.loop (rec .done (some c))) ∧ W.heap[w.heap.size]? = some (.deferred (some [])))
   W1 hb1 (by omega) (by omega)
   (fun s A B hs hg' => ⟨hI s A B hs.1 (hg'.mono (by omega)),(hg'.block _ (by omega)).trans hs.2.1,(hg'.block _ (by omega)).trans hs.2.2⟩)
   ?_ ⟨hI1,hL1,hK1⟩).mono ?_
  ·-- one round
   rintro pre x W ⟨hi,hl,hk⟩ hlen
   have hy:=run_yield (P:=P) (args:=encs x) hl (by rw [hrec];exact hps x)
   rw [hrec] at hy
   refine ⟨fn,_,assign,body,hy,roundIn_of_wpIn hfn (hassign _ pre x W _ (by omega) hi ?_)⟩
   clear hy
   intro a' Wa hm hax
   have hla:=hm.keep hl (by simp)
   have hka:=hm.keep hk (by simp)
   have hlt : w.heap.size + 1 < Wa.heap.size:=(Array.getElem?_eq_some_iff.1 hla).1
   have hia : I pre Wa:=hI _ _ _ hi (hm.below.mono (by have:=(Array.getElem?_eq_some_iff.1 hk).1;omega))
   refine ⟨_,run_beginRound hla (by rw [hrec]),?_⟩
   have hl2 : (Wa.putObj (w.heap.size + 1) (.loop { rec .ready none with state:=.busy })).heap[w.heap.size + 1]? = some (.loop { rec .ready none with state:=.busy }):=World.putObj_heap_same hlt
   have hk2 : (Wa.putObj (w.heap.size + 1) (.loop { rec .ready none with state:=.busy })).heap[w.heap.size]? = some (.deferred (some [])):=(World.putObj_heap_other (by omega)).trans hka
   have hi2 : I pre (Wa.putObj (w.heap.size + 1) (.loop { rec .ready none with state:=.busy })):=hI _ _ _ hia (below_putObj _ (by omega))
   have hax2 : Ax x a' (Wa.putObj (w.heap.size + 1) (.loop { rec .ready none with state:=.busy })):=hAx _ _ _ _ hax (by simp) (fun k o ho hc => by
    by_cases e : k = w.heap.size + 1
    ·subst e;rw [hla] at ho;cases ho;cases hc
    ·exact (World.putObj_heap_other e).trans ho)
   refine wpIn_mono (hbody _ pre x a' _ (by omega) hi2 hax2 hlen) ?_
   have fin : ∀ (jump : Option Code) (W3 : World),HighKept w.heap.size (Wa.putObj (w.heap.size + 1) (.loop { rec .ready none with state:=.busy })) W3 →
     (Instr.endRound (w.heap.size + 1) jump).run P W3 = .ok (.bool jump.isNone) (W3.putObj (w.heap.size + 1) (.loop (rec (if jump.isNone then .ready else .done) jump))) ∧
     w.heap.size + 1 < W3.heap.size ∧
     (W3.putObj (w.heap.size + 1) (.loop (rec (if jump.isNone then .ready else .done) jump))).heap[w.heap.size + 1]? = some (.loop (rec (if jump.isNone then .ready else .done) jump)) ∧
     (W3.putObj (w.heap.size + 1) (.loop (rec (if jump.isNone then .ready else .done) jump))).heap[w.heap.size]? = some (.deferred (some [])):=fun jump W3 hk3 => by
    have hl3:=hk3 _ _ (by omega) hl2
    have:=run_endRound (P:=P) jump hl3
    rw [hrec] at this ⊢
    exact ⟨this,(Array.getElem?_eq_some_iff.1 hl3).1,World.putObj_heap_same (Array.getElem?_eq_some_iff.1 hl3).1,(World.putObj_heap_other (by omega)).trans (hk3 _ _ (Nat.le_refl _) hk2)⟩
   rintro e a3 W3 hp
   cases e with
   | normal =>
    obtain ⟨hm3,hi3⟩:=hp
    obtain ⟨hr,hl3,hl4,hk4⟩:=fin none W3 (fun k o _ ho => hm3.keep ho (by simp))
    refine ⟨_,_,hr,.inl ⟨rfl,⟨hI _ _ _ hi3 (below_putObj _ (by omega)),hl4,hk4⟩,?_⟩⟩
    refine Mod.putObj ?_ (by simp) _
    exact ((hm.mono (by simp)).putObj (by simp) _).trans hm3 (by simp)
   | ret =>
    obtain ⟨hk3,hi3⟩:=hp
    obtain ⟨hr,hl3,hl4,hk4⟩:=fin (some .ret) W3 hk3
    exact ⟨_,_,hr,.inr ⟨rfl,.ret,hIx _ _ _ _ hi3 (below_putObj _ (by omega)),hl4,hk4⟩⟩
   | exit id =>
    obtain ⟨hk3,hi3⟩:=hp
    obtain ⟨hr,hl3,hl4,hk4⟩:=fin (some (.exit id)) W3 hk3
    exact ⟨_,_,hr,.inr ⟨rfl,.exit id,hIx _ _ _ _ hi3 (below_putObj _ (by omega)),hl4,hk4⟩⟩
   | goto t =>
    obtain ⟨hk3,hi3⟩:=hp
    obtain ⟨hr,hl3,hl4,hk4⟩:=fin (some (.goto t)) W3 hk3
    exact ⟨_,_,hr,.inr ⟨rfl,.goto t,hIx _ _ _ _ hi3 (below_putObj _ (by omega)),hl4,hk4⟩⟩
   | panic ch => exact hp.elim
   | outgrown => exact hp.elim
  ·rintro e W2 ⟨⟨v,rfl⟩,(⟨xs,hS,hi,hl,hk⟩ | ⟨pre,hSp,c,hi,hl,hk⟩)⟩
   ·exact ⟨none,_,by have:=run_endLoop (P:=P) hl (by rw [hrec];simp);rw [hrec] at this;exact this,hdone _ xs _ (Nat.le_refl _) hS (hI _ _ _ hi (below_putObj _ (by omega))) ((World.putObj_heap_other (by omega)).trans hk)⟩
   ·exact ⟨some c,_,by have:=run_endLoop (P:=P) hl (by rw [hrec];simp);rw [hrec] at this;exact this,hstop _ c pre _ (Nat.le_refl _) hSp (hIx _ _ _ _ hi (below_putObj _ (by omega))) ((World.putObj_heap_other (by omega)).trans hk)⟩
theorem wp_rangeW {α : Type} {g : Operand} {ps : Array Tmp} {assign body : Code} {Q : Exit → Act → World → Prop} {a : Act} {w : World} (n : Nat) (h1 : 1 ≤ n)
  {gf : Nat} {lb : Array Value} (hg : a.eval g = .func (.func gf) #[] lb) (eg : ∀ args w,(callFunc gf args).run P w = .ok (.enter gf args) w)
  {encs : α → Array Value} {S Sp : List α → Prop} {N : Nat} {w0 : World} (hseq : SeqR Fence.wide (n - 1) P gf lb encs S Sp N w0) (hb0 : Below w0.heap.size w0 w) (hps : ∀ x,(encs x).size = ps.size)
  (I : List α → World → Prop) (Ix : Code → List α → World → Prop) (hI : ClB w.heap.size I) (hIx : ∀ c,ClB w.heap.size (Ix c)) (h0 : I [] w) (Ax : α → Act → World → Prop) (hAx : ClC Ax)
  (hassign : ∀ (l : Nat) (pre : List α) (x : α) (W : World) (K : Act → World → Prop),w.heap.size ≤ l → I pre W → (∀ a' W',Mod [] W W' → Ax x a' W' → K a' W') →
   assign.wpIn (Fence.wide.inRound l) (n - 1 - 1) P (Exit.then K (fun _ _ _ => False)) { tmps:=(ps.zip (encs x)).foldl (fun t (p,v) => t.setIfInBounds p v) a.tmps,defers:=[] } W)
  (hbody : ∀ (l : Nat) (pre : List α) (x : α) (a' : Act) (W : World),w.heap.size ≤ l → I pre W → Ax x a' W → pre.length < N → body.wpIn (Fence.wide.inRound l) (n - 1 - 1) P (postR w.heap.size I Ix (pre ++ [x]) W) a' W)
  (hdone : ∀ (D : Nat) (xs : List α) (W : World),w.heap.size ≤ D → S xs → I xs W → W.heap[D]? = some (.deferred (some [])) → Q .normal { a with defers:={ target:=.collected D,args:=#[] } :: a.defers } W)
  (hstop : ∀ (D : Nat) (c : Code) (pre : List α) (W : World),w.heap.size ≤ D → Sp pre → Ix c pre W → W.heap[D]? = some (.deferred (some [])) → c.wp P Q { a with defers:={ target:=.collected D,args:=#[] } :: a.defers } W) :
  (Code.rangeFunc g ps assign body).wp P Q a w :=
 (wpIn_wide (n:=n)).1 (wp_rangeR rfl h1 hg trivial eg hseq hb0 hps I Ix hI hIx h0 Ax hAx hassign hbody hdone (fun D c pre W h2 h3 h4 h5 => wpIn_wide.2 (hstop D c pre W h2 h3 h4 h5)))
end Go.Proofs.YtfdillpofciicaaGreatDoor
namespace Go.Proofs.YtfdillpofciicaaGreatDoor
open Go Go.RowKit Go.Maps Go.Shelf
attribute [local go_sem] AllFrom.cons_eq AllFrom.nil_eq putF_nil putF_cons wantedL_none wantedL_some OpGoalT OpGoalV OpGoalQ OpGoalA OpGoalK YieldsR preF_nil preF_cons
attribute [local go_sem] Oper.semAt_some
inductive Chain (B : List Bd) : Hd → List Hd → Prop
 | nil {h : Hd} : parB B h = none → Chain B h []
 | cons {h p : Hd} {xs : List Hd} : parB B h = some p → Chain B p xs → Chain B h (p :: xs)
theorem Acy.chain {B : List Bd} (h : Acy B) (x : Hd) : ∃ xs,Chain B x xs:=by
 obtain ⟨rk,hr⟩:=h
 have key : ∀ n x,rk x ≤ n → ∃ xs,Chain B x xs:=by
  intro n
  induction n with
  | zero =>
   intro x hx
   cases hp : parB B x with
   | none => exact ⟨[],.nil hp⟩
   | some p =>
    have h1:=hr _ (parB_some hp)
    simp only at h1
    omega
  | succ n ih =>
   intro x hx
   cases hp : parB B x with
   | none => exact ⟨[],.nil hp⟩
   | some p =>
    have h1:=hr _ (parB_some hp)
    simp only at h1
    obtain ⟨xs,hx⟩:=ih p (by omega)
    exact ⟨p :: xs,.cons hp hx⟩
 exact key _ x (Nat.le_refl _)
theorem Chain.mem {B : List Bd} (hs : SortB B) {x : Hd} {xs : List Hd} (h : Chain B x xs) (a : Hd) : (x = a ∨ a ∈ xs) ↔ Up B x a:=by
 induction h with
 | nil hp => rw [up_none hp];simp
 | cons hp _ ih => rw [up_some hs hp,← ih,List.mem_cons];constructor <;> (rintro (h | h) <;> simp_all) <;> (rcases h with h | h <;> simp_all)
theorem Chain.fn {B : List Bd} {x : Hd} {xs ys : List Hd} (h : Chain B x xs) (k : Chain B x ys) : xs = ys:=by
 induction h generalizing ys with
 | nil hp => cases k with
  | nil => rfl
  | cons hq _ => rw [hp] at hq;cases hq
 | cons hp _ ih => cases k with
  | nil hq => rw [hp] at hq;cases hq
  | cons hq k => rw [hp] at hq;cases hq;rw [ih k]
open Classical in
noncomputable def chLen (B : List Bd) (x : Hd) : Nat:=if h : ∃ xs,Chain B x xs then h.choose.length else 0
theorem chLen_eq {B : List Bd} {x : Hd} {xs : List Hd} (h : Chain B x xs) : chLen B x = xs.length:=by
 unfold chLen
 rw [dif_pos ⟨xs,h⟩]
 rw [Chain.fn (Exists.choose_spec (⟨xs,h⟩ : ∃ xs,Chain B x xs)) h]
def boxH (wr : World) (p : Value) : Hd:=match p with
 | .pointer (some a) => (match wr.cell? a,wr.cell? (a.add 1) with | some (.int _ s),some (.int _ g) => (s,g) | _,_ => (0,0))
 | _ => (0,0)
theorem boxH_eq {wr : World} {b : Nat} {y : Hd} (h : wr.heap[b]? = some (.cells (handleC y).toArray 47 (0,0))) : boxH wr (.pointer (some ⟨b,0,none⟩)) = y:=by
 have e0:=blk_cell h 0
 have e1:=blk_cell h 1
 simp only [handleC,eA,eZ,eS] at e0 e1
 have ha : (⟨b,0,none⟩ : Addr).add 1 = ⟨b,1,none⟩:=rfl
 simp only [boxH,ha,e0,e1]
def Nxt (B : List Bd) (v : Bool) (y : Hd) (rest : List Hd) : Prop:=(v = false ∧ rest = []) ∨ (v = true ∧ ∃ r,rest = y :: r ∧ Chain B y r ∧ HdR y)
theorem nxt_of {B : List Bd} {x : Hd} {rest : List Hd} (hr : ∀ b ∈ B,HdR b.1 ∧ HdR b.2) (h : Chain B x rest) : Nxt B (parB B x).isSome (parV (parB B x)) rest:=by
 cases h with
 | nil hp => exact .inl ⟨by rw [hp];rfl,rfl⟩
 | cons hp k => exact .inr ⟨by rw [hp];rfl,_,by rw [hp];rfl,by rw [hp];exact k,by rw [hp];exact (hr _ (parB_some hp)).2⟩
noncomputable def nxtM (B : List Bd) (v4 v5 : Value) (wr : World) : Nat:=match v5 with
 | .bool true => 1 + chLen B (boxH wr v4)
 | _ => 0
theorem nxtM_eq {B : List Bd} {v : Bool} {y : Hd} {rest : List Hd} {b : Nat} {wr : World} (h : Nxt B v y rest) (hb : wr.heap[b]? = some (.cells (handleC y).toArray 47 (0,0))) : nxtM B (.pointer (some ⟨b,0,none⟩)) (.bool v) wr = rest.length:=by
 rcases h with ⟨rfl,rfl⟩ | ⟨rfl,r,rfl,hc,-⟩
 ·rfl
 ·unfold nxtM
  simp only
  rw [boxH_eq hb,chLen_eq hc,List.length_cons]
  omega
structure IOne (m g : Nat) (w2 : World) (zs row : Array Value) (T : TypeId) (L : Nat → Bool) (V : World) : Prop where
 b : Below w2.heap.size w2 V
 ge : w2.heap.size ≤ g
 blk : V.heap[g]? = some (.cells (if L m = true then row else zs) T (0,0))
theorem IOne.read {m g : Nat} {w2 : World} {zs row : Array Value} {T : TypeId} {L : Nat → Bool} {V : World} (h : IOne m g w2 zs row T L V) {i : Nat} (h1 : m ≠ i) : IOne m g w2 zs row T (upd L i) V:=by
 have e : upd L i m = L m:=by unfold upd;simp [h1]
 exact ⟨h.b,h.ge,by rw [e];exact h.blk⟩
theorem IOne.yr_stored {P : Program} {o : Oper} {ρ : Operand → Value} {J : Value → World → Prop} {m g : Nat} {w2 V : World} {zl rl : List Value} {T : TypeId} {L : Nat → Bool}
  (h : IOne m g w2 zl.toArray rl.toArray T L V) (hm : L m = false) (hl : rl.length = zl.length) (ty : TypeId) (x y : Operand) (ho : o.op = .store ty x y) (hx : ρ x = .pointer (some ⟨g,0,none⟩)) (hy : ρ y = .agg rl.toArray)
  (hi : (P.info? ty).map (·.size) = some rl.length) (h1 : ∀ u ∈ rl,u.oneCell' = true) (hJ : ∀ V',IOne m g w2 zl.toArray rl.toArray T (upd L m) V' → J undef V') : YieldsR P o ρ V J:=by
 have q3:=h.blk
 rw [hm] at q3
 simp only [Bool.false_eq_true,if_false] at q3
 have hst:=setCells_block (w:=V) rl 0 V zl q3
 rw [setL_all rl zl hl] at hst
 have hmod:=mod_setCells (F:=[g]) (g:=g) (.inl (by simp)) rl 0 V (Mod.refl _ V)
 refine yr_store ty x y ho g 0 rl hx hy (hl ▸ blk_there q3 (Nat.le_refl _)) hi h1 (hJ _ ⟨h.b.trans (hmod.toBelow (by simpa using h.ge) h.b.size),h.ge,?_⟩)
 have e2 : upd L m m = true:=by simp [upd]
 rw [e2];exact hst
section
variable {w : World} {f : Nat} {B : List Bd} {F : List Nat}
set_option maxRecDepth 20000 in
theorem above_any (f : Nat) (s g : Int) (w : World) : Calls Tryz.prog 95 #[.pointer (some ⟨f,0,none⟩),.agg #[.int .i64 s,.int .i64 g]] w fun e w' => e = .returned (.func (.func 146) #[] #[.pointer (some ⟨w.heap.size,0,none⟩),.pointer (some ⟨w.heap.size + 1,0,none⟩)]) ∧ w' = (w.alloc (.cells #[.pointer (some ⟨f,0,none⟩)] 107)).alloc (.cells #[.int .i64 s,.int .i64 g] 47):=by
 go_enter Tryz.func95,Tryz.ntmps95
 go_wp2
 go_ret
 exact ⟨rfl,rfl⟩
set_option maxRecDepth 20000 in
set_option maxHeartbeats 4000000 in
theorem above_seq (n : Nat) (h : RepF w f B F) (s g : Int) (hr : HdR (s,g)) {ch : List Hd} (hc : Chain B (s,g) ch) (bf bh : Nat) (hf : w.heap[bf]? = some (.cells #[.pointer (some ⟨f,0,none⟩)] 107 (0,0))) (hh : w.heap[bh]? = some (.cells #[.int .i64 s,.int .i64 g] 47 (0,0))) :
  SeqR Fence.wide n Tryz.prog 146 #[.pointer (some ⟨bf,0,none⟩),.pointer (some ⟨bh,0,none⟩)] (fun x : Hd => #[hdV x]) (fun xs => xs = ch) (fun pre => pre <+: ch) ch.length w:=by
 intro l J Jx W hW hlw hlt hJ hY h0
 have hFlt:=h.lt
 refine callsIn_of_wp Tryz.func146 rfl trivial (wpIn_wide.2 ?_) rfl
 simp only [Tryz.ntmps146,List.size_toArray,List.length_cons,List.length_nil,Nat.reduceAdd,Nat.reduceSub,Array.replicate_succ,Array.replicate_zero,List.push_toArray,List.append_toArray,List.nil_append,List.cons_append]
 have hRW:=h.below hW
 obtain ⟨m,hF,hL⟩:=hRW.look
 have hfW:=(Mod.ofBelow hW).keep hf (by simp)
 have hhW:=(Mod.ofBelow hW).keep hh (by simp)
 have hL1:=fun W' (hW' : Below W.heap.size W W') => (⟨(hL W' hW').1,(hL W' hW').2.1,(hL W' hW').2.2 s g hr⟩ : _ ∧ _ ∧ _)
 obtain ⟨⟨ps,pg⟩,hps⟩ : ∃ x,parV (parB B (s,g)) = x:=⟨_,rfl⟩
 simp only [hdV,handleC,hps] at hL1
 have hbf:=blk_lt hf
 generalize hbo : (parB B (s,g)).isSome = bo at hL1
 obtain ⟨zl,hzl⟩ : ∃ zl,zl = ints [0,0]:=⟨_,rfl⟩
 obtain ⟨rl,hrl⟩ : ∃ rl,rl = ints [ps,pg]:=⟨_,rfl⟩
 have HW:=Lib.hid hW;have Hlw:=Lib.hid hlw;have Hlt:=Lib.hid hlt;have HJ:=Lib.hid hJ;have HY:=Lib.hid hY;have H0:=Lib.hid h0;have HRW:=Lib.hid hRW;have HfW:=Lib.hid hfW;have Hz:=Lib.hid hhW;have HL:=Lib.hid hL1;have Hps:=Lib.hid hps;have Hbo:=Lib.hid hbo;have Hzl:=Lib.hid hzl;have Hrl:=Lib.hid hrl;have HF:=Lib.hid hF;have Hc:=Lib.hid hc;have Hbf:=Lib.hid hbf;have HFlt:=Lib.hid hFlt
 clear hW hlw hlt hJ hY h0 hRW hfW hhW hL1 hps hbo hzl hrl hF hc hbf hFlt
 clear hL
 clear h hf hh hr
 go_wp2_with fail
 refine wp_planK [9] 11 [] [some 7,some 8,some 9,some 10,some 11,some 12,some 6,some 13,some 14,some 4,none,some 5] [[],[0],[0,1],[0,1,2],[],[0,1,2,3,4],[0,1,2,3,4,5],[0,1,2,3,4,5,6],[0,1,2,3,4,5,6],[],[0,1,2,3,4,5,6,7,9],[0,1,2,3,4,5,6,7,8,9,10]] [0,1,2,3,4,5,6,7,8,9,10] (fun L σ V => IGet 9 10 W zl.toArray rl.toArray 47 L σ V) mixed rfl (by kernel_rfl) (by decide) (by decide) (by decide) (IGet.start (Below.refl _ _).drew) rfl ?_
 iterate 11 apply Exists.intro
 refine ⟨rfl,?_,?_⟩
 ·simp only [tS,List.take_zero,AllFrom.cons_eq,AllFrom.nil_eq,OpGoalK]
  refine ⟨?_,?_,?_,?_,?_,?_,?_,?_,?_,?_,?_,trivial⟩
  all_goals (intro L' σ V h1 h2 h3 hI hp;have HA1:=Lib.hid h1;have HA2:=Lib.hid h2;have HA3:=Lib.hid h3;clear h1 h2 h3;(try simp only [gZ,gS,preK_cons,preK_nil] at hp);(try simp only [List.mem_cons,List.not_mem_nil,or_false,eq_self,Nat.reduceEqDiff,Nat.reduceAdd,Nat.zero_add,false_or,true_or,true_and,and_true] at hp);(first | (have hq : True:=hp;clear hq hp) | skip);have HI:=Lib.hid hI;clear hI)
  all_goals (
   have hLV:=HL.out V HI.out.b
   have hc:=hLV.1;have hl:=hLV.2.1;have hk:=hLV.2.2
   have hzV:=(Mod.ofBelow HI.out.b).keep Hz.out (by simp)
   have q0:=blk_cell hzV 0
   have q1:=blk_cell hzV 1
   simp only [eA,eZ,eS] at q0 q1
   have ql:=blk_lt hzV
   have hfV:=(Mod.ofBelow HI.out.b).keep HfW.out (by simp)
   have u0:=blk_cell hfV 0
   simp only [eA,eZ,eS] at u0
   have ul:=blk_lt hfV
   clear hfV
   clear hLV hzV)
  iterate 9 · (go_simp;exact ⟨.inr rfl,HI.out.read (by decide) (by decide) _⟩)
  ·go_simp
   have hmk:=HI.out.made (by decide) (HA3.out 10 (by decide))
   rw [Hzl.out] at hmk ⊢
   exact PostK.mk (c:=undef) (.inl (by decide)) hmk
  ·simp only [wantedL_none,if_true,Nat.reduceAdd,Nat.zero_add]
   have x3:=HA1.out
   simp only [Nat.reduceAdd,Nat.zero_add] at x3
   generalize hρ : Act.eval _ = ρ
   refine IGet.yr_stored HI.out (by decide) (HA2.out 9 (by decide)) x3 (by rw [Hzl.out,Hrl.out];rfl) 47 (.tmp 4) (.tmp 13) rfl ?_ ?_ (by rw [Hrl.out];kernel_rfl) (by rw [Hrl.out];exact ints_one _) (fun V' hV' => PostK.mk (c:=undef) (.inr rfl) hV')
   ·rw [← hρ]
    go_simp
   ·rw [← hρ]
    go_simp
    rw [Hrl.out]
    rfl
 ·intro L' σ V h1 hI hp
  obtain ⟨r,s9,hr,hst⟩:=hI.blk (h1 9 (by decide))
  rw [if_pos (h1 10 (by decide)),Hrl.out] at hst
  clear h1
  simp only [preK_cons,preK_nil,gZ,gS] at hp;simp only [List.mem_cons,List.not_mem_nil,or_false,eq_self,Nat.reduceEqDiff,false_or,true_or,true_and,and_true] at hp
  have HB:=Lib.hid hI.b
  have Hr:=Lib.hid hr
  have Hst:=Lib.hid hst
  clear hI hst hr
  simp only [dS,List.drop_zero]
  go_simp
  clear hp
  generalize σ 9 = v9 at *
  subst s9
  go_wp2_with fail
  refine ⟨rfl,?_⟩
  go_wp2_with fail
  go_loopw [4,5] (fun v4 v5 wr => ∃ (pre rest : List Hd) (b : Nat) (v : Bool) (y : Hd),v4 = .pointer (some ⟨b,0,none⟩) ∧ v5 = .bool v ∧ ch = pre ++ rest ∧ J pre wr ∧ Mod [l] W wr ∧ W.heap.size ≤ b ∧ wr.heap[b]? = some (.cells (handleC y).toArray 47 (0,0)) ∧ Nxt B v y rest) (fun v4 v5 wr => nxtM B v4 v5 wr)
  case atStart =>
   refine ⟨[],ch,r,bo,(ps,pg),rfl,rfl,rfl,HJ.out _ _ _ H0.out HB.out,(Mod.ofBelow HB.out).mono (by simp),Hr.out,Hst.out,?_⟩
   rw [← Hps.out,← Hbo.out]
   exact nxt_of HRW.out.r Hc.out
  case round =>
   obtain ⟨pre,rest,b,v,⟨y0,y1⟩,rfl,rfl,hch,hJp,hmod,hbge,hbb,hnx⟩:=hrel
   have hmeas:=nxtM_eq hnx hbb
   rcases hnx with ⟨rfl,rfl⟩ | ⟨rfl,rest,rfl,hcy,hyr⟩
   ·have hfin : (∃ v : Value,Ending.returned (.tuple #[]) = .returned v) ∧ ((∃ xs,xs = ch ∧ J xs wr) ∨ (∃ pre,pre <+: ch ∧ Jx pre wr)):=⟨⟨_,rfl⟩,.inl ⟨pre,by rw [hch];simp,hJp⟩⟩
    have Hfin:=Lib.hid hfin
    clear hfin
    clear hch hJp hmod hbge hbb hmeas
    go_wp2
    refine bodyPost_end (v:=.tuple #[]) ?_ rfl Hfin.out
    unfold results;try go_simp
   ·have hll : pre.length < ch.length:=by rw [hch];simp
    have hyl:=HY.out pre (y0,y1) wr hJp hll
    obtain ⟨fn,tmps,assign,body,hy,hR⟩:=hyl
    simp only [hdV,handleC] at hy
    obtain ⟨HR,Hch,HJp,Hmod,Hbge,Hbb,Hmeas,Hcy,Hyr⟩:=hid9 hR hch hJp hmod hbge hbb hmeas hcy hyr
    clear hR hch hJp hmod hbge hbb hmeas hcy hyr
    have e0:=blk_cell Hbb.out 0
    have e1:=blk_cell Hbb.out 1
    simp only [handleC,eA,eZ,eS] at e0 e1
    have el:=blk_lt Hbb.out
    clear hll
    refine (wpIn_wide (n:=n)).1 ?_
    gi_wp2_with fail
    refine ⟨fun h => (by simp [Fence.wide] at h),HR.out.mono ?_⟩
    rintro e W3 (⟨rfl,hJ3,hm3⟩ | ⟨rfl,hJx3⟩)
    ·have hb3:=hm3.keep Hbb.out (by have:=Hbge.out;have:=Hlt.out;simp;omega)
     have e0:=blk_cell hb3 0
     have e1:=blk_cell hb3 1
     simp only [handleC,eA,eZ,eS] at e0 e1
     have el:=blk_lt hb3
     have hm03:=Hmod.out.step hm3
     have hFl : ∀ y ∈ F,y ∉ [l]:=fun y hy e => by
      have h1:=HFlt.out y hy
      have h2:=Hlw.out
      simp only [List.mem_cons,List.not_mem_nil,or_false] at e
      omega
     have hR3:=HRW.out.mod hm03 hFl
     obtain ⟨m3,hF3,hL3⟩:=hR3.look
     obtain rfl : m3 = m:=by
      have:=hF3.symm.trans HF.out
      simpa using this
     have hbf3:=hm03.keep HfW.out (by have:=Hbf.out;have:=Hlw.out;simp;omega)
     have hL4:=fun W' (hW' : Below W3.heap.size W3 W') => (⟨(hL3 W' hW').1,(hL3 W' hW').2.1,(hL3 W' hW').2.2 y0 y1 Hyr.out⟩ : _ ∧ _ ∧ _)
     obtain ⟨⟨qs,qg⟩,has⟩ : ∃ x,parV (parB B (y0,y1)) = x:=⟨_,rfl⟩
     simp only [hdV,handleC,has] at hL4
     have hnx:=nxt_of HRW.out.r Hcy.out
     rw [has] at hnx
     generalize (parB B (y0,y1)).isSome = bo2 at hL4 hnx
     obtain ⟨zl2,hzl2⟩ : ∃ zl,zl = ints [y0,y1]:=⟨_,rfl⟩
     obtain ⟨rl2,hrl2⟩ : ∃ rl,rl = ints [qs,qg]:=⟨_,rfl⟩
     have hst : IOne 9 W3.heap.size W3 zl2.toArray rl2.toArray 47 (fun _ => false) (W3.alloc (.cells #[.int .i64 y0,.int .i64 y1] 47)).drew:=by
      rw [hzl2]
      exact ⟨((Below.refl _ W3).alloc (Nat.le_refl _) _).drew,Nat.le_refl _,blk_drew (heap_alloc_new W3 _)⟩
     have hsz3:=hm03.size
     obtain ⟨Hb3,HJ3,Hm3,Hm03,Hbf3,HL4,Has,Hnx,Hzl2,Hrl2,Hst2,Hsz3⟩:=hid12 hb3 hJ3 hm3 hm03 hbf3 hL4 has hnx hzl2 hrl2 hst hsz3
     clear hb3 hJ3 hm3 hm03 hbf3 hL4 has hnx hzl2 hrl2 hst hsz3
     clear hR3 hF3 hL3 hFl
     gi_wp2_with fail
     clear e0 e1 el hy
     refine wpIn_wide.2 ?_
     refine wp_planK [] 10 [] [some 17,some 18,some 19,some 20,some 21,some 22,some 16,some 23,some 24,none,some 5] [[],[0],[0,1],[0,1,2],[],[0,1,2,3,4],[0,1,2,3,4,5],[0,1,2,3,4,5,6],[0,1,2,3,4,5,6],[0,1,2,3,4,5,6,7],[0,1,2,3,4,5,6,7,8,9]] [0,1,2,3,4,5,6,7,8,9] (fun L σ V => IOne 9 W3.heap.size W3 zl2.toArray rl2.toArray 47 L V) mixed rfl (by kernel_rfl) (by decide) (by decide) (by decide) Hst2.out rfl ?_
     iterate 10 apply Exists.intro
     refine ⟨rfl,?_,?_⟩
     ·simp only [tS,List.take_zero,AllFrom.cons_eq,AllFrom.nil_eq,OpGoalK]
      refine ⟨?_,?_,?_,?_,?_,?_,?_,?_,?_,?_,trivial⟩
      all_goals (intro L' σ V h1 h2 h3 hI hp;have HA1:=Lib.hid h1;have HA2:=Lib.hid h2;have HA3:=Lib.hid h3;clear h1 h2 h3;(try simp only [gZ,gS,preK_cons,preK_nil] at hp);(try simp only [List.mem_cons,List.not_mem_nil,or_false,eq_self,Nat.reduceEqDiff,Nat.reduceAdd,Nat.zero_add,false_or,true_or,true_and,and_true] at hp);(first | (have hq : True:=hp;clear hq hp) | skip);have HI:=Lib.hid hI;clear hI)
      all_goals (
       have hLV:=HL4.out V HI.out.b
       have hc:=hLV.1;have hl:=hLV.2.1;have hk:=hLV.2.2
       have hfV:=(Mod.ofBelow HI.out.b).keep Hbf3.out (by simp)
       have u0:=blk_cell hfV 0
       simp only [eA,eZ,eS] at u0
       have ul:=blk_lt hfV
       clear hLV hfV)
      iterate 4 · (go_simp;exact ⟨.inr rfl,HI.out.read (by decide)⟩)
      ·have hzV:=HI.out.blk
       rw [if_neg (by rw [HA3.out 9 (by decide)];simp),Hzl2.out] at hzV
       have hzV : V.heap[W3.heap.size]? = some (.cells #[.int .i64 y0,.int .i64 y1] 47 (0,0)):=hzV
       obtain ⟨q0,q1,ql⟩:=cells2 hzV
       clear hzV
       go_simp
       exact ⟨.inr rfl,HI.out.read (by decide)⟩
      iterate 4 · (go_simp;exact ⟨.inr rfl,HI.out.read (by decide)⟩)
      ·simp only [wantedL_none,if_true,Nat.reduceAdd,Nat.zero_add]
       have x3:=HA1.out
       simp only [Nat.reduceAdd,Nat.zero_add] at x3
       generalize hρ : Act.eval _ = ρ
       refine IOne.yr_stored HI.out x3 (by rw [Hzl2.out,Hrl2.out];rfl) 47 (.tmp 4) (.tmp 23) rfl ?_ ?_ (by rw [Hrl2.out];kernel_rfl) (by rw [Hrl2.out];exact ints_one _) (fun V' hV' => PostK.mk (c:=undef) (.inr rfl) hV')
       ·rw [← hρ]
        go_simp
       ·rw [← hρ]
        go_simp
        rw [Hrl2.out]
        rfl
     ·intro L' σ V h1 hI hp
      have hst2:=hI.blk
      rw [if_pos (h1 9 (by decide)),Hrl2.out] at hst2
      clear h1
      simp only [preK_cons,preK_nil,gZ,gS] at hp;simp only [List.mem_cons,List.not_mem_nil,or_false,eq_self,Nat.reduceEqDiff,false_or,true_or,true_and,and_true] at hp
      have HB4:=Lib.hid hI.b
      have Hst3:=Lib.hid hst2
      clear hI hst2
      simp only [dS,List.drop_zero]
      go_simp
      clear hp
      go_wp2_with fail
      refine ⟨rfl,?_⟩
      go_wp2_with fail
      go_roundw
      case rel =>
       refine ⟨pre ++ [(y0,y1)],rest,W3.heap.size,bo2,(qs,qg),rfl,rfl,by rw [Hch.out];simp,HJ.out _ _ _ HJ3.out (HB4.out.mono Hsz3.out),(Hm03.out.andBelow HB4.out),Hsz3.out,Hst3.out,Hnx.out⟩
      case measure =>
       rw [nxtM_eq Hnx.out Hst3.out,Hmeas.out];simp
    ·have hfin : (∃ v : Value,Ending.returned (.tuple #[]) = .returned v) ∧ ((∃ xs,xs = ch ∧ J xs W3) ∨ (∃ pre,pre <+: ch ∧ Jx pre W3)):=⟨⟨_,rfl⟩,.inr ⟨pre ++ [(y0,y1)],⟨rest,by rw [Hch.out];simp⟩,hJx3⟩⟩
     have Hfin:=Lib.hid hfin
     clear hfin
     clear hJx3 e0 e1 el hy
     gi_wp2
     refine bodyPost_ret (v:=.tuple #[]) ?_ rfl Hfin.out
     unfold results;try go_simp
 all_goals exact undef
end
end Go.Proofs.YtfdillpofciicaaGreatDoor
