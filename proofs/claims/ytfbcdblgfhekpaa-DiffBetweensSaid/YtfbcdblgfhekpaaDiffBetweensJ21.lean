import Derived.RangeFuncNested
import Derived.RangeFuncBound
import Derived.RangeFuncCalls
import Derived.Test.YtfbcdblgfhekpaaDiffBetweensJ4
import Derived.Test.YtfbcdblgfhekpaaDiffBetweensJ18
import Derived.RangeFuncLeaves
import Derived.Shelf.Abstract
import Derived.Shelf.RegionOpen
import Derived.OwnWalkIn
import Derived.TacticsInMore
import Derived.LoopNIn
import Derived.LoopIn
import Derived.RangeFuncGives
import Derived.Maps.AppendAt
import Derived.Test.YtfbcdblgfhekpaaDiffBetweensJ20
/- 'for x := range seq { .. }' where the iterator keeps cells of its own: a law of one's own. -/
namespace Go.Proofs.Ytfbcdblgfhekpaa
open Go Go.RowKit

theorem Mod.putObj {F : List Nat} {a w : World} (h : Mod F a w) {l : Nat} (hl : l ∈ F ∨ a.heap.size ≤ l) (o : Obj) : Mod F a (w.putObj l o) :=
  h.trans (G := [l]) ⟨rfl, rfl, rfl, by simp, fun k _ hk => World.putObj_heap_other (by simpa using hk)⟩ (by simpa using hl)
theorem below_putObj {B : Nat} {W : World} {l : Nat} (o : Obj) (hl : B ≤ l) : Below B W (W.putObj l o) :=
  ⟨rfl, rfl, rfl, by simp, fun k hk => World.putObj_heap_other (by omega)⟩
/-- J holds on where all below n is as it was. -/
def ClB {β : Type} (n : Nat) (J : β → World → Prop) : Prop := ∀ s A B, J s A → Below n A B → J s B
/-- What the iterator hears of a round. -/
def YieldR {α : Type} (l : Nat) (J Jx : List α → World → Prop) (pre : List α) (x : α) (W : World) (e : Ending) (W' : World) : Prop :=
  (e = .returned (.bool true) ∧ J (pre ++ [x]) W' ∧ Mod [l] W W') ∨ (e = .returned (.bool false) ∧ Jx (pre ++ [x]) W')
/-- An iterator's contract: it may keep cells of its own; a round turns nothing that lay but the loop's record. -/
def SeqR {α : Type} (F : Fence) (n : Nat) (P : Program) (g : Nat) (lb : Array Value) (encs : α → Array Value) (S Sp : List α → Prop) (N : Nat) (w : World) : Prop :=
  ∀ (l : Nat) (J Jx : List α → World → Prop) (W : World), Below w.heap.size w W → w.heap.size ≤ l → l < W.heap.size → ClB W.heap.size J →
    (∀ pre x W1, J pre W1 → pre.length < N → YieldAt F (n - 1) P l (encs x) W1 (YieldR l J Jx pre x W1)) → J [] W →
    CallsIn F n P g (#[.func (.yield l) #[] #[]] ++ lb) W fun e W' => (∃ v, e = .returned v) ∧ ((∃ xs, S xs ∧ J xs W') ∨ (∃ pre, Sp pre ∧ Jx pre W'))
/-- All from B on lies as it lay. -/
def HighKept (B : Nat) (W W' : World) : Prop := ∀ k o, B ≤ k → W.heap[k]? = some o → W'.heap[k]? = some o
theorem highKept_mod {B : Nat} {F : List Nat} {W W' : World} (h : Mod F W W') (hF : ∀ x ∈ F, x < B) : HighKept B W W' :=
  fun k o hk ho => h.keep ho (fun e => by have := hF k e; omega)
/-- How a round's body may be left. -/
def postR {α : Type} (B : Nat) (I : List α → World → Prop) (Ix : Code → List α → World → Prop) (xs : List α) (W : World) : Exit → Act → World → Prop
  | .normal, _, W' => Mod [] W W' ∧ I xs W'
  | .ret, _, W' => HighKept B W W' ∧ Ix .ret xs W'
  | .exit id, _, W' => HighKept B W W' ∧ Ix (.exit id) xs W'
  | .goto t, _, W' => HighKept B W W' ∧ Ix (.goto t) xs W'
  | .panic _, _, _ => False
  | .outgrown, _, _ => False
/-- Ax speaks of cells alone. -/
def ClC {α : Type} (Ax : α → Act → World → Prop) : Prop := ∀ x a' (A B : World), Ax x a' A → A.heap.size ≤ B.heap.size → (∀ (k : Nat) (o : Obj), A.heap[k]? = some o → o.isCells = true → B.heap[k]? = some o) → Ax x a' B

variable {F : Fence} {n : Nat} {P : Program}
theorem wp_rangeR {α : Type} {g : Operand} {ps : Array Tmp} {assign body : Code} {Q : Exit → Act → World → Prop} {a : Act} {w : World}
    (hro : F.round = none) (h1 : 1 ≤ n) {gf : Nat} {lb : Array Value} (hg : a.eval g = .func (.func gf) #[] lb) (hFg : F.fn gf) (eg : ∀ args w, (callFunc gf args).run P w = .ok (.enter gf args) w)
    {encs : α → Array Value} {S Sp : List α → Prop} {N : Nat} {w0 : World} (hseq : SeqR F (n - 1) P gf lb encs S Sp N w0) (hb0 : Below w0.heap.size w0 w) (hps : ∀ x, (encs x).size = ps.size)
    (I : List α → World → Prop) (Ix : Code → List α → World → Prop) (hI : ClB w.heap.size I) (hIx : ∀ c, ClB w.heap.size (Ix c)) (h0 : I [] w) (Ax : α → Act → World → Prop) (hAx : ClC Ax)
    (hassign : ∀ (l : Nat) (pre : List α) (x : α) (W : World) (K : Act → World → Prop), w.heap.size ≤ l → I pre W → (∀ a' W', Mod [] W W' → Ax x a' W' → K a' W') →
      assign.wpIn (F.inRound l) (n - 1 - 1) P (Exit.then K (fun _ _ _ => False)) { tmps := (ps.zip (encs x)).foldl (fun t (p, v) => t.setIfInBounds p v) a.tmps, defers := [] } W)
    (hbody : ∀ (l : Nat) (pre : List α) (x : α) (a' : Act) (W : World), w.heap.size ≤ l → I pre W → Ax x a' W → pre.length < N → body.wpIn (F.inRound l) (n - 1 - 1) P (postR w.heap.size I Ix (pre ++ [x]) W) a' W)
    (hdone : ∀ (D : Nat) (xs : List α) (W : World), w.heap.size ≤ D → S xs → I xs W → W.heap[D]? = some (.deferred (some [])) → Q .normal { a with defers := { target := .collected D, args := #[] } :: a.defers } W)
    (hstop : ∀ (D : Nat) (c : Code) (pre : List α) (W : World), w.heap.size ≤ D → Sp pre → Ix c pre W → W.heap[D]? = some (.deferred (some [])) → c.wpIn F n P Q { a with defers := { target := .collected D, args := #[] } :: a.defers } W) :
    (Code.rangeFunc g ps assign body).wpIn F n P Q a w := by
  refine wpIn_rangeFunc ?_
  intro fn hfn
  rw [hro]
  obtain ⟨rec, hrec⟩ : ∃ rec : LoopState → Option Code → Loop, rec = fun st pe => { state := st, pending := pe, fn, tmps := a.tmps, params := ps, assign, body, defers := w.heap.size } := ⟨_, rfl⟩
  obtain ⟨W1, hW1⟩ : ∃ W1, (w.alloc (.deferred (some []))).alloc (.loop (rec .ready none)) = W1 := ⟨_, rfl⟩
  have hL1 : W1.heap[w.heap.size + 1]? = some (.loop (rec .ready none)) := by
    rw [← hW1]; have := World.alloc_heap_new (w.alloc (.deferred (some []))) (.loop (rec .ready none)); rwa [World.size_alloc] at this
  have hK1 : W1.heap[w.heap.size]? = some (.deferred (some [])) := by
    rw [← hW1]; exact (Below.heap_alloc _ _ _ (by simp)).trans (World.alloc_heap_new w _)
  have hbw : Below w.heap.size w W1 := by
    rw [← hW1]; exact ((Below.refl _ w).alloc (Nat.le_refl _) _).alloc (by simp) _
  have hI1 : I [] W1 := hI _ _ _ h0 hbw
  have hb1 : Below w0.heap.size w0 W1 := hb0.trans (hbw.mono hb0.size)
  have hs1 : W1.heap.size = w.heap.size + 2 := by rw [← hW1]; simp
  have hs0 := hb0.size
  refine ⟨w.heap.size + 1, [{ target := .collected w.heap.size, args := #[] }], W1, { target := .fn (.func gf) lb, args := #[.func (.yield (w.heap.size + 1)) #[] #[]] }, W1, gf,
    #[.func (.yield (w.heap.size + 1)) #[] #[]] ++ lb, W1, ?_, ?_, ?_, ?_, fun _ => h1, ?_⟩
  · rw [← hW1, hrec]; exact run_enterLoop_outer _ _ _ _ _
  · simp only [resolve, hg]
    simp [go_sem]
  · intro f' hf'; simp [Target.leads] at hf'; subst hf'; exact hFg
  · simp [invoke, go_sem, eg]
  · refine (hseq (w.heap.size + 1)
      (fun pre W => I pre W ∧ W.heap[w.heap.size + 1]? = some (.loop (rec .ready none)) ∧ W.heap[w.heap.size]? = some (.deferred (some [])))
      (fun pre W => ∃ c, Ix c pre W ∧ W.heap[w.heap.size + 1]? = some (.loop (rec .done (some c))) ∧ W.heap[w.heap.size]? = some (.deferred (some [])))
      W1 hb1 (by omega) (by omega)
      (fun s A B hs hg' => ⟨hI s A B hs.1 (hg'.mono (by omega)), (hg'.block _ (by omega)).trans hs.2.1, (hg'.block _ (by omega)).trans hs.2.2⟩)
      ?_ ⟨hI1, hL1, hK1⟩).mono ?_
    · -- one round
      rintro pre x W ⟨hi, hl, hk⟩ hlen
      have hy := run_yield (P := P) (args := encs x) hl (by rw [hrec]; exact hps x)
      rw [hrec] at hy
      refine ⟨fn, _, assign, body, hy, roundIn_of_wpIn hfn (hassign _ pre x W _ (by omega) hi ?_)⟩
      clear hy
      intro a' Wa hm hax
      have hla := hm.keep hl (by simp)
      have hka := hm.keep hk (by simp)
      have hlt : w.heap.size + 1 < Wa.heap.size := (Array.getElem?_eq_some_iff.1 hla).1
      have hia : I pre Wa := hI _ _ _ hi (hm.below.mono (by have := (Array.getElem?_eq_some_iff.1 hk).1; omega))
      refine ⟨_, run_beginRound hla (by rw [hrec]), ?_⟩
      have hl2 : (Wa.putObj (w.heap.size + 1) (.loop { rec .ready none with state := .busy })).heap[w.heap.size + 1]? = some (.loop { rec .ready none with state := .busy }) := World.putObj_heap_same hlt
      have hk2 : (Wa.putObj (w.heap.size + 1) (.loop { rec .ready none with state := .busy })).heap[w.heap.size]? = some (.deferred (some [])) := (World.putObj_heap_other (by omega)).trans hka
      have hi2 : I pre (Wa.putObj (w.heap.size + 1) (.loop { rec .ready none with state := .busy })) := hI _ _ _ hia (below_putObj _ (by omega))
      have hax2 : Ax x a' (Wa.putObj (w.heap.size + 1) (.loop { rec .ready none with state := .busy })) := hAx _ _ _ _ hax (by simp) (fun k o ho hc => by
        by_cases e : k = w.heap.size + 1
        · subst e; rw [hla] at ho; cases ho; cases hc
        · exact (World.putObj_heap_other e).trans ho)
      refine wpIn_mono (hbody _ pre x a' _ (by omega) hi2 hax2 hlen) ?_
      have fin : ∀ (jump : Option Code) (W3 : World), HighKept w.heap.size (Wa.putObj (w.heap.size + 1) (.loop { rec .ready none with state := .busy })) W3 →
          (Instr.endRound (w.heap.size + 1) jump).run P W3 = .ok (.bool jump.isNone) (W3.putObj (w.heap.size + 1) (.loop (rec (if jump.isNone then .ready else .done) jump))) ∧
          w.heap.size + 1 < W3.heap.size ∧
          (W3.putObj (w.heap.size + 1) (.loop (rec (if jump.isNone then .ready else .done) jump))).heap[w.heap.size + 1]? = some (.loop (rec (if jump.isNone then .ready else .done) jump)) ∧
          (W3.putObj (w.heap.size + 1) (.loop (rec (if jump.isNone then .ready else .done) jump))).heap[w.heap.size]? = some (.deferred (some [])) := fun jump W3 hk3 => by
        have hl3 := hk3 _ _ (by omega) hl2
        have := run_endRound (P := P) jump hl3
        rw [hrec] at this ⊢
        exact ⟨this, (Array.getElem?_eq_some_iff.1 hl3).1, World.putObj_heap_same (Array.getElem?_eq_some_iff.1 hl3).1, (World.putObj_heap_other (by omega)).trans (hk3 _ _ (Nat.le_refl _) hk2)⟩
      rintro e a3 W3 hp
      cases e with
      | normal =>
        obtain ⟨hm3, hi3⟩ := hp
        obtain ⟨hr, hl3, hl4, hk4⟩ := fin none W3 (fun k o _ ho => hm3.keep ho (by simp))
        refine ⟨_, _, hr, .inl ⟨rfl, ⟨hI _ _ _ hi3 (below_putObj _ (by omega)), hl4, hk4⟩, ?_⟩⟩
        refine Mod.putObj ?_ (by simp) _
        exact ((hm.mono (by simp)).putObj (by simp) _).trans hm3 (by simp)
      | ret =>
        obtain ⟨hk3, hi3⟩ := hp
        obtain ⟨hr, hl3, hl4, hk4⟩ := fin (some .ret) W3 hk3
        exact ⟨_, _, hr, .inr ⟨rfl, .ret, hIx _ _ _ _ hi3 (below_putObj _ (by omega)), hl4, hk4⟩⟩
      | exit id =>
        obtain ⟨hk3, hi3⟩ := hp
        obtain ⟨hr, hl3, hl4, hk4⟩ := fin (some (.exit id)) W3 hk3
        exact ⟨_, _, hr, .inr ⟨rfl, .exit id, hIx _ _ _ _ hi3 (below_putObj _ (by omega)), hl4, hk4⟩⟩
      | goto t =>
        obtain ⟨hk3, hi3⟩ := hp
        obtain ⟨hr, hl3, hl4, hk4⟩ := fin (some (.goto t)) W3 hk3
        exact ⟨_, _, hr, .inr ⟨rfl, .goto t, hIx _ _ _ _ hi3 (below_putObj _ (by omega)), hl4, hk4⟩⟩
      | panic ch => exact hp.elim
      | outgrown => exact hp.elim
    · rintro e W2 ⟨⟨v, rfl⟩, (⟨xs, hS, hi, hl, hk⟩ | ⟨pre, hSp, c, hi, hl, hk⟩)⟩
      · exact ⟨none, _, by have := run_endLoop (P := P) hl (by rw [hrec]; simp); rw [hrec] at this; exact this, hdone _ xs _ (Nat.le_refl _) hS (hI _ _ _ hi (below_putObj _ (by omega))) ((World.putObj_heap_other (by omega)).trans hk)⟩
      · exact ⟨some c, _, by have := run_endLoop (P := P) hl (by rw [hrec]; simp); rw [hrec] at this; exact this, hstop _ c pre _ (Nat.le_refl _) hSp (hIx _ _ _ _ hi (below_putObj _ (by omega))) ((World.putObj_heap_other (by omega)).trans hk)⟩
/-- The same, at the wide fence, for the plain walk. -/
theorem wp_rangeW {α : Type} {g : Operand} {ps : Array Tmp} {assign body : Code} {Q : Exit → Act → World → Prop} {a : Act} {w : World} (n : Nat) (h1 : 1 ≤ n)
    {gf : Nat} {lb : Array Value} (hg : a.eval g = .func (.func gf) #[] lb) (eg : ∀ args w, (callFunc gf args).run P w = .ok (.enter gf args) w)
    {encs : α → Array Value} {S Sp : List α → Prop} {N : Nat} {w0 : World} (hseq : SeqR Fence.wide (n - 1) P gf lb encs S Sp N w0) (hb0 : Below w0.heap.size w0 w) (hps : ∀ x, (encs x).size = ps.size)
    (I : List α → World → Prop) (Ix : Code → List α → World → Prop) (hI : ClB w.heap.size I) (hIx : ∀ c, ClB w.heap.size (Ix c)) (h0 : I [] w) (Ax : α → Act → World → Prop) (hAx : ClC Ax)
    (hassign : ∀ (l : Nat) (pre : List α) (x : α) (W : World) (K : Act → World → Prop), w.heap.size ≤ l → I pre W → (∀ a' W', Mod [] W W' → Ax x a' W' → K a' W') →
      assign.wpIn (Fence.wide.inRound l) (n - 1 - 1) P (Exit.then K (fun _ _ _ => False)) { tmps := (ps.zip (encs x)).foldl (fun t (p, v) => t.setIfInBounds p v) a.tmps, defers := [] } W)
    (hbody : ∀ (l : Nat) (pre : List α) (x : α) (a' : Act) (W : World), w.heap.size ≤ l → I pre W → Ax x a' W → pre.length < N → body.wpIn (Fence.wide.inRound l) (n - 1 - 1) P (postR w.heap.size I Ix (pre ++ [x]) W) a' W)
    (hdone : ∀ (D : Nat) (xs : List α) (W : World), w.heap.size ≤ D → S xs → I xs W → W.heap[D]? = some (.deferred (some [])) → Q .normal { a with defers := { target := .collected D, args := #[] } :: a.defers } W)
    (hstop : ∀ (D : Nat) (c : Code) (pre : List α) (W : World), w.heap.size ≤ D → Sp pre → Ix c pre W → W.heap[D]? = some (.deferred (some [])) → c.wp P Q { a with defers := { target := .collected D, args := #[] } :: a.defers } W) :
    (Code.rangeFunc g ps assign body).wp P Q a w :=
  (wpIn_wide (n := n)).1 (wp_rangeR rfl h1 hg trivial eg hseq hb0 hps I Ix hI hIx h0 Ax hAx hassign hbody hdone (fun D c pre W h2 h3 h4 h5 => wpIn_wide.2 (hstop D c pre W h2 h3 h4 h5)))
end Go.Proofs.Ytfbcdblgfhekpaa

/- Families: above, Adopt. (printed by mk_fam4.py) -/
namespace Go.Proofs.Ytfbcdblgfhekpaa
open Go Go.RowKit Go.Maps Go.Shelf
attribute [local go_sem] AllFrom.cons_eq AllFrom.nil_eq putF_nil putF_cons wantedL_none wantedL_some OpGoalT OpGoalV OpGoalQ OpGoalA OpGoalK YieldsR preF_nil preF_cons
attribute [local go_sem] Oper.semAt_some

/-- All that a handle is under, the nearest first. -/
inductive Chain (B : List Bd) : Hd → List Hd → Prop
  | nil {h : Hd} : parB B h = none → Chain B h []
  | cons {h p : Hd} {xs : List Hd} : parB B h = some p → Chain B p xs → Chain B h (p :: xs)
theorem Acy.chain {B : List Bd} (h : Acy B) (x : Hd) : ∃ xs, Chain B x xs := by
  obtain ⟨rk, hr⟩ := h
  have key : ∀ n x, rk x ≤ n → ∃ xs, Chain B x xs := by
    intro n
    induction n with
    | zero =>
      intro x hx
      cases hp : parB B x with
      | none => exact ⟨[], .nil hp⟩
      | some p =>
        have h1 := hr _ (parB_some hp)
        simp only at h1
        omega
    | succ n ih =>
      intro x hx
      cases hp : parB B x with
      | none => exact ⟨[], .nil hp⟩
      | some p =>
        have h1 := hr _ (parB_some hp)
        simp only at h1
        obtain ⟨xs, hx⟩ := ih p (by omega)
        exact ⟨p :: xs, .cons hp hx⟩
  exact key _ x (Nat.le_refl _)
theorem Chain.mem {B : List Bd} (hs : SortB B) {x : Hd} {xs : List Hd} (h : Chain B x xs) (a : Hd) : (x = a ∨ a ∈ xs) ↔ Up B x a := by
  induction h with
  | nil hp => rw [up_none hp]; simp
  | cons hp _ ih => rw [up_some hs hp, ← ih, List.mem_cons]; constructor <;> (rintro (h | h) <;> simp_all) <;> (rcases h with h | h <;> simp_all)

theorem Chain.fn {B : List Bd} {x : Hd} {xs ys : List Hd} (h : Chain B x xs) (k : Chain B x ys) : xs = ys := by
  induction h generalizing ys with
  | nil hp => cases k with
    | nil => rfl
    | cons hq _ => rw [hp] at hq; cases hq
  | cons hp _ ih => cases k with
    | nil hq => rw [hp] at hq; cases hq
    | cons hq k => rw [hp] at hq; cases hq; rw [ih k]
open Classical in
noncomputable def chLen (B : List Bd) (x : Hd) : Nat := if h : ∃ xs, Chain B x xs then h.choose.length else 0
theorem chLen_eq {B : List Bd} {x : Hd} {xs : List Hd} (h : Chain B x xs) : chLen B x = xs.length := by
  unfold chLen
  rw [dif_pos ⟨xs, h⟩]
  rw [Chain.fn (Exists.choose_spec (⟨xs, h⟩ : ∃ xs, Chain B x xs)) h]
def boxH (wr : World) (p : Value) : Hd := match p with
  | .pointer (some a) => (match wr.cell? a, wr.cell? (a.add 1) with | some (.int _ s), some (.int _ g) => (s, g) | _, _ => (0, 0))
  | _ => (0, 0)
theorem boxH_eq {wr : World} {b : Nat} {y : Hd} (h : wr.heap[b]? = some (.cells (handleC y).toArray 28 (0, 0))) : boxH wr (.pointer (some ⟨b, 0, none⟩)) = y := by
  have e0 := blk_cell h 0
  have e1 := blk_cell h 1
  simp only [handleC, List.getElem?_toArray, List.getElem?_cons_zero, List.getElem?_cons_succ] at e0 e1
  have ha : (⟨b, 0, none⟩ : Addr).add 1 = ⟨b, 1, none⟩ := rfl
  simp only [boxH, ha, e0, e1]
/-- What the loop knows of what is to come. -/
def Nxt (B : List Bd) (v : Bool) (y : Hd) (rest : List Hd) : Prop := (v = false ∧ rest = []) ∨ (v = true ∧ ∃ r, rest = y :: r ∧ Chain B y r ∧ HdR y)
theorem nxt_of {B : List Bd} {x : Hd} {rest : List Hd} (hr : ∀ b ∈ B, HdR b.1 ∧ HdR b.2) (h : Chain B x rest) : Nxt B (parB B x).isSome (parV (parB B x)) rest := by
  cases h with
  | nil hp => exact .inl ⟨by rw [hp]; rfl, rfl⟩
  | cons hp k => exact .inr ⟨by rw [hp]; rfl, _, by rw [hp]; rfl, by rw [hp]; exact k, by rw [hp]; exact (hr _ (parB_some hp)).2⟩
noncomputable def nxtM (B : List Bd) (v4 v5 : Value) (wr : World) : Nat := match v5 with
  | .bool true => 1 + chLen B (boxH wr v4)
  | _ => 0
theorem nxtM_eq {B : List Bd} {v : Bool} {y : Hd} {rest : List Hd} {b : Nat} {wr : World} (h : Nxt B v y rest) (hb : wr.heap[b]? = some (.cells (handleC y).toArray 28 (0, 0))) : nxtM B (.pointer (some ⟨b, 0, none⟩)) (.bool v) wr = rest.length := by
  rcases h with ⟨rfl, rfl⟩ | ⟨rfl, r, rfl, hc, -⟩
  · rfl
  · unfold nxtM
    simp only
    rw [boxH_eq hb, chLen_eq hc, List.length_cons]
    omega

/-- A region that stores (operation m) into one block g that was made ahead of it. -/
structure IOne (m g : Nat) (w2 : World) (zs row : Array Value) (T : TypeId) (L : Nat → Bool) (V : World) : Prop where
  b : Below w2.heap.size w2 V
  ge : w2.heap.size ≤ g
  blk : V.heap[g]? = some (.cells (if L m = true then row else zs) T (0, 0))
theorem IOne.read {m g : Nat} {w2 : World} {zs row : Array Value} {T : TypeId} {L : Nat → Bool} {V : World} (h : IOne m g w2 zs row T L V) {i : Nat} (h1 : m ≠ i) : IOne m g w2 zs row T (upd L i) V := by
  have e : upd L i m = L m := by unfold upd; simp [h1]
  exact ⟨h.b, h.ge, by rw [e]; exact h.blk⟩
theorem IOne.yr_stored {P : Program} {o : Oper} {ρ : Operand → Value} {J : Value → World → Prop} {m g : Nat} {w2 V : World} {zl rl : List Value} {T : TypeId} {L : Nat → Bool}
    (h : IOne m g w2 zl.toArray rl.toArray T L V) (hm : L m = false) (hl : rl.length = zl.length) (ty : TypeId) (x y : Operand) (ho : o.op = .store ty x y) (hx : ρ x = .pointer (some ⟨g, 0, none⟩)) (hy : ρ y = .agg rl.toArray)
    (hi : (P.info? ty).map (·.size) = some rl.length) (h1 : ∀ u ∈ rl, u.oneCell' = true) (hJ : ∀ V', IOne m g w2 zl.toArray rl.toArray T (upd L m) V' → J undef V') : YieldsR P o ρ V J := by
  have q3 := h.blk
  rw [hm] at q3
  simp only [Bool.false_eq_true, if_false] at q3
  have hst := setCells_block (w := V) rl 0 V zl q3
  rw [setL_all rl zl hl] at hst
  have hmod := mod_setCells (F := [g]) (g := g) (.inl (by simp)) rl 0 V (Mod.refl _ V)
  refine yr_store ty x y ho g 0 rl hx hy (hl ▸ blk_there q3 (Nat.le_refl _)) hi h1 (hJ _ ⟨h.b.trans (hmod.toBelow (by simpa using h.ge) h.b.size), h.ge, ?_⟩)
  have e2 : upd L m m = true := by simp [upd]
  rw [e2]; exact hst

section
variable {w : World} {f : Nat} {B : List Bd} {F : List Nat}
end
end Go.Proofs.Ytfbcdblgfhekpaa

/- Maps of rows: Keys. (printed by mk_df5.py) -/
namespace Go.Proofs.Ytfbcdblgfhekpaa
open Go Go.RowKit Go.Maps Go.Shelf
attribute [local go_sem] AllFrom.cons_eq AllFrom.nil_eq putF_nil putF_cons wantedL_none wantedL_some OpGoalT OpGoalV OpGoalQ OpGoalA OpGoalK YieldsR preF_nil preF_cons
attribute [local go_sem] Oper.semAt_some

theorem RangeAt.walks {P : Program} {kt : TypeId} {w w' : World} {b r : Nat} {l todo : List (Value × Value)} (h : RangeAt P kt w b r l todo) (k : KeepsWalks w w') : RangeAt P kt w' b r l todo := by
  obtain ⟨es, clock, since, seen, c0, h1, h2, h3, h4, h5, h7, h6⟩ := h
  exact ⟨es, clock, since, seen, c0, k.same _ _ h1 rfl, h2, k.same _ _ h3 rfl, h4, h5, h7, h6⟩
theorem RangeAt.walkObj {P : Program} {kt : TypeId} {w : World} {b r : Nat} {l todo : List (Value × Value)} (h : RangeAt P kt w b r l todo) : ∃ o : Obj, w.heap[r]? = some o ∧ o.isWalk = true := by
  obtain ⟨es, clock, since, seen, c0, h1, h2, h3, h4, h5, h7, h6⟩ := h
  exact ⟨_, h3, rfl⟩
theorem Mod.grown1 {a w : World} {r : Nat} (h : Mod [r] a w) : a.grownBy w (some r) := ⟨h.os, h.tape, h.output, h.size, fun k h1 h2 => h.block k h1 (fun e => h2 (by simp at e; rw [e]))⟩
theorem below_grown0 {a w : World} (h : Below a.heap.size a w) : a.grownBy w none := ⟨h.os, h.tape, h.output, h.size, fun k h1 _ => h.block k h1⟩
theorem keepsWalks_below {a w : World} (h : Below a.heap.size a w) : KeepsWalks a w := ⟨h.size, fun k o hk _ => (h.block k (Array.getElem?_eq_some_iff.1 hk).1).trans hk⟩

section
variable {w : World} {m : Nat} {l : List Rw}
set_option maxRecDepth 20000 in
theorem keys_any (m : Nat) (w : World) : Calls Try.prog 16 #[.map (some m)] w fun e w' => e = .returned (.func (.func 32) #[] #[.pointer (some ⟨w.heap.size, 0, none⟩)]) ∧ w' = w.alloc (.cells #[.map (some m)] 43) := by
  go_enter Try.func16, Try.ntmps16
  go_wp2
  go_ret
  exact ⟨rfl, rfl⟩

set_option maxRecDepth 20000 in
set_option maxHeartbeats 4000000 in
theorem keys_seq (n : Nat) (h : MapR w m l) (bm : Nat) (hm : w.heap[bm]? = some (.cells #[.map (some m)] 43 (0, 0))) :
    SeqGives Fence.wide n Try.prog 32 #[.pointer (some ⟨bm, 0, none⟩)] hdV (fun xs => xs.Perm (l.map (·.1))) l.length w := by
  intro yl J W hW hJ hY h0
  refine callsIn_of_wp Try.func32 rfl trivial (wpIn_wide.2 ?_) rfl
  simp only [Try.ntmps32, List.size_toArray, List.length_cons, List.length_nil, Nat.reduceAdd, Nat.reduceSub, Array.replicate_succ, Array.replicate_zero, List.push_toArray, List.append_toArray, List.nil_append, List.cons_append]
  have hMW := h.mod (Mod.ofBelow hW) (by simp)
  obtain ⟨o, hrun, hR2⟩ := hMW.range Try.underlying43
  obtain ⟨w1, hw1, hb1, -, hs1⟩ := box1 W o
  rw [hw1] at hR2
  have hmW := (Mod.ofBelow hW).keep hm (by simp)
  have h01 := hJ [] W w1 none h0 (below_grown0 hb1) (fun r e => by cases e)
  have q0 := blk_cell hmW 0
  simp only [List.getElem?_toArray, List.getElem?_cons_zero, List.getElem?_cons_succ] at q0
  have ql := blk_lt hmW
  have HR2 := Lib.hid hR2; have HS1 := Lib.hid hs1; have HJ := Lib.hid hJ; have HY := Lib.hid hY; have H01 := Lib.hid h01
  clear hR2 hs1 hJ hY h01
  clear h hMW hb1 hmW hW hm h0
  go_wp2_with fail
  clear hrun hw1
  generalize hrr : W.heap.size = r at *
  go_loopw [3] (fun _ wr => ∃ (pre : List Hd) (ts : List Rw), RangeAt Try.prog 28 wr m r (l.map rwPr) (ts.map rwPr) ∧ (pre ++ ts.map (·.1)).Perm (l.map (·.1)) ∧ J pre wr) (fun _ wr => wr.rangeLeft m r)
  case atStart => exact ⟨[], l, HR2.out, .refl _, H01.out⟩
  case round =>
    obtain ⟨pre, ts, hRg, hp, hJp⟩ := hrel
    by_cases hts : ts = []
    · subst hts
      have hov := fun ty => RangeAt.over (P := Try.prog) (by simpa using hRg) ty
      rw [List.map_nil, List.append_nil] at hp
      have hfin : (∃ v : Value, Ending.returned (.tuple #[]) = .returned v) ∧ (∃ xs : List Hd, xs.Perm (l.map (·.1)) ∧ J xs wr) := ⟨⟨_, rfl⟩, pre, hp, hJp⟩
      have Hfin := Lib.hid hfin
      clear hfin
      clear hRg hp hJp
      go_wp2
      refine bodyPost_end (v := .tuple #[]) ?_ rfl Hfin.out
      unfold results; try go_simp
    · obtain ⟨t1, x, t2, w2, rfl, hn, hen, hx, hRg2, hm2, hs2⟩ := hRg.nextE hts
      have hmeas := hRg.left_eq
      have hJ2 := HJ.out pre wr w2 (some r) hJp hm2.grown1 (fun q e => by cases e; exact ⟨Nat.le_refl _, hRg.walkObj⟩)
      obtain ⟨w3, hw3, hb3, hz3, hs3⟩ := box1 w2 (.cells #[.int .i64 x.1.1, .int .i64 x.1.2] 28)
      have hJ3 := HJ.out pre w2 w3 none hJ2 (below_grown0 hb3) (fun q e => by cases e)
      have hRg3 := hRg2.walks (keepsWalks_below hb3)
      have hll : pre.length < l.length := by
        have := hp.length_eq
        simp at this
        omega
      obtain ⟨fn, tmps, assign, body, hy, hR⟩ := HY.out pre x.1 w3 hJ3 hll
      have hp2 : ((pre ++ [x.1]) ++ (t1 ++ t2).map (·.1)).Perm (l.map (·.1)) := by
        refine List.Perm.trans ?_ hp
        have := (mid_perm pre (t1.map (·.1)) (t2.map (·.1)) x.1).symm
        simpa using this
      obtain ⟨⟨s, g⟩, K, a0, a1, a2, a3, a4, a5, a6, a7⟩ := x
      simp only [hdV, handleC] at hy
      simp only [rwPr, hdV, handleC, beV] at hn hen
      have u0 := blk_cell hz3 0
      have u1 := blk_cell hz3 1
      simp only [List.getElem?_toArray, List.getElem?_cons_zero, List.getElem?_cons_succ] at u0 u1
      have ul := blk_lt hz3
      have Hmeas := Lib.hid hmeas; have HRg3 := Lib.hid hRg3; have HR := Lib.hid hR; have Hp2 := Lib.hid hp2; have HS2 := Lib.hid hs2; have HS3 := Lib.hid hs3
      clear hmeas hRg3 hR hp2 hs2 hs3
      clear hRg hJp hx hRg2 hm2 hJ2 hJ3 hll hp hb3 hz3
      refine (wpIn_wide (n := n)).1 ?_
      gi_wp2_with fail
      refine ⟨fun h => (by simp [Fence.wide] at h), HR.out.mono ?_⟩
      rintro e W3 ⟨rfl, hJ4, hk4⟩
      have hRg4 := HRg3.out.walks hk4
      have HJ4 := Lib.hid hJ4; have HRg4 := Lib.hid hRg4
      clear hJ4 hRg4
      clear hk4
      gi_wp2_with fail
      go_roundw
      case rel => exact ⟨pre ++ [(s, g)], t1 ++ t2, HRg4.out, Hp2.out, HJ4.out⟩
      case measure => rw [HRg4.out.left_eq, Hmeas.out]; simp
end
end Go.Proofs.Ytfbcdblgfhekpaa
