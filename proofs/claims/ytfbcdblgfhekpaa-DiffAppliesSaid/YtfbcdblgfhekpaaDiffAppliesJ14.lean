import Derived.RangeFuncGives
import Derived.Test.YtfbcdblgfhekpaaDiffAppliesJ13
import Derived.Great.BuildSlice
import Derived.Test.YtfbcdblgfhekpaaDiffAppliesJ7
import Derived.Test.YtfbcdblgfhekpaaDiffAppliesJ12
import Derived.Test.YtfbcdblgfhekpaaDiffAppliesJ10
/- 'for x := range seq { .. }' over an iterator that hands out all (the kit's SeqGives): a law for bodies that write cells. -/
namespace Go.Proofs.Ytfbcdblgfhekpaa
open Go Go.RowKit

/-- Nothing but objects from n on that are no cells has turned. -/
structure StepG (n : Nat) (A B : World) : Prop where
  os : B.os = A.os
  tape : B.tape = A.tape
  output : B.output = A.output
  size : A.heap.size ≤ B.heap.size
  keep : ∀ (k : Nat) (o : Obj), A.heap[k]? = some o → (k < n ∨ o.isCells = true) → B.heap[k]? = some o
/-- I holds on through such a step. -/
def ClG {β : Type} (n : Nat) (I : β → World → Prop) : Prop := ∀ s A B, I s A → StepG n A B → I s B
theorem StepG.ofMod {n : Nat} {A B : World} (h : Mod [] A B) : StepG n A B := ⟨h.os, h.tape, h.output, h.size, fun k o hk _ => h.keep hk (by simp)⟩
theorem StepG.below {n m : Nat} {w A B : World} (h : StepG n A B) (hb : Below m w A) (hm : m ≤ n) (hA : m ≤ A.heap.size) : Below m w B :=
  ⟨h.os.trans hb.os, h.tape.trans hb.tape, h.output.trans hb.output, Nat.le_trans hb.size h.size, fun k hk => by
    have hkA : k < A.heap.size := by omega
    have e : A.heap[k]? = some A.heap[k] := Array.getElem?_eq_getElem hkA
    rw [← hb.block k hk, e]
    exact h.keep k _ e (.inl (by omega))⟩
theorem StepG.row {n : Nat} {A B : World} (h : StepG n A B) {b : Nat} {E : TypeId} {z : Nat} {v : Value} {k : Nat} {xs : List Value} (hr : A.ownsRow b E z v k xs) : B.ownsRow b E z v k xs := by
  refine ⟨hr.1, ?_⟩
  rcases hr.2 with hn | ⟨g, cap, cur, hv, hbg, hg, rest⟩
  · exact .inl hn
  · exact .inr ⟨g, cap, cur, hv, hbg, h.keep g _ hg (.inr rfl), rest⟩
/-- A round's word: what is no cells lies as it lay. -/
structure KeptO (W W' : World) : Prop where
  size : W.heap.size ≤ W'.heap.size
  same : ∀ (k : Nat) (o : Obj), W.heap[k]? = some o → o.isCells = false → W'.heap[k]? = some o
theorem isCells_walk {o : Obj} (h : o.isWalk = true) : o.isCells = false := by cases o <;> first | rfl | cases h
theorem isWalk_cells {o : Obj} (h : o.isCells = true) : o.isWalk = false := by cases o <;> first | rfl | cases h
theorem KeptO.walks {W W' : World} (h : KeptO W W') : KeepsWalks W W' := ⟨h.size, fun k o hk ho => h.same k o hk (isCells_walk ho)⟩
theorem keepsWalks_mod {W W' : World} (h : Mod [] W W') : KeepsWalks W W' := ⟨h.size, fun k o hk _ => h.keep hk (by simp)⟩
theorem stepG_putObj {n l : Nat} {W : World} {o : Obj} (o' : Obj) (h : W.heap[l]? = some o) (ho : o.isCells = false) (hl : n ≤ l) : StepG n W (W.putObj l o') :=
  ⟨rfl, rfl, rfl, by simp, fun k o2 hk hc => by
    have hne : k ≠ l := by
      rintro rfl
      rw [h] at hk
      cases hk
      rcases hc with hc | hc
      · omega
      · rw [ho] at hc; cases hc
    exact (World.putObj_heap_other hne).trans hk⟩

def postG {α : Type} (I : List α → World → Prop) (xs : List α) (W : World) : Exit → Act → World → Prop
  | .normal, _, W' => KeptO W W' ∧ I xs W'
  | _, _, _ => False

variable {F : Fence} {n : Nat} {P : Program}
theorem wp_rangeG {α : Type} {g : Operand} {ps : Array Tmp} {assign body : Code} {Q : Exit → Act → World → Prop} {a : Act} {w : World}
    (hro : F.round = none) (h1 : 1 ≤ n) {gf : Nat} {lb : Array Value} (hg : a.eval g = .func (.func gf) #[] lb) (hFg : F.fn gf) (eg : ∀ args w, (callFunc gf args).run P w = .ok (.enter gf args) w)
    {enc : α → Value} {S : List α → Prop} {N : Nat} {w0 : World} (hseq : SeqGives F (n - 1) P gf lb enc S N w0) (hb0 : Below w0.heap.size w0 w) (hps : ps.size = 1)
    (I : List α → World → Prop) (hI : ClG w.heap.size I) (h0 : I [] w) (Ax : α → Act → World → Prop) (hAx : ClC Ax)
    (hassign : ∀ (l : Nat) (pre : List α) (x : α) (W : World) (K : Act → World → Prop), w.heap.size ≤ l → I pre W → (∀ a' W', Mod [] W W' → Ax x a' W' → K a' W') →
      assign.wpIn (F.inRound l) (n - 1 - 1) P (Exit.then K (fun _ _ _ => False)) { tmps := (ps.zip #[enc x]).foldl (fun t (p, v) => t.setIfInBounds p v) a.tmps, defers := [] } W)
    (hbody : ∀ (l : Nat) (pre : List α) (x : α) (a' : Act) (W : World), w.heap.size ≤ l → I pre W → Ax x a' W → pre.length < N → body.wpIn (F.inRound l) (n - 1 - 1) P (postG I (pre ++ [x]) W) a' W)
    (hdone : ∀ (D : Nat) (xs : List α) (W : World), w.heap.size ≤ D → S xs → I xs W → W.heap[D]? = some (.deferred (some [])) → Q .normal { a with defers := { target := .collected D, args := #[] } :: a.defers } W) :
    (Code.rangeFunc g ps assign body).wpIn F n P Q a w := by
  refine wpIn_rangeFunc ?_
  intro fn hfn
  rw [hro]
  obtain ⟨rec, hrec⟩ : ∃ rec : LoopState → Option Code → Loop, rec = fun st pe => { state := st, pending := pe, fn, tmps := a.tmps, params := ps, assign, body, defers := w.heap.size } := ⟨_, rfl⟩
  obtain ⟨W1, hW1⟩ : ∃ W1, (w.alloc (.deferred (some []))).alloc (.loop (rec .ready none)) = W1 := ⟨_, rfl⟩
  have hL1 : W1.heap[w.heap.size + 1]? = some (.loop (rec .ready none)) := by
    rw [← hW1]; have := World.alloc_heap_new (w.alloc (.deferred (some []))) (.loop (rec .ready none)); rwa [World.size_alloc] at this
  have hK1 : W1.heap[w.heap.size]? = some (.deferred (some [])) := by
    rw [← hW1]; exact (Below.heap_alloc _ _ _ (by simp)).trans (World.alloc_heap_new w _)
  have hbw : Below w.heap.size w W1 := by
    rw [← hW1]; exact ((Below.refl _ w).alloc (Nat.le_refl _) _).alloc (by simp) _
  have hI1 : I [] W1 := hI _ _ _ h0 (StepG.ofMod (Mod.ofBelow hbw))
  have hb1 : Below w0.heap.size w0 W1 := hb0.trans (hbw.mono hb0.size)
  have hs1 : W1.heap.size = w.heap.size + 2 := by rw [← hW1]; simp
  refine ⟨w.heap.size + 1, [{ target := .collected w.heap.size, args := #[] }], W1, { target := .fn (.func gf) lb, args := #[.func (.yield (w.heap.size + 1)) #[] #[]] }, W1, gf,
    #[.func (.yield (w.heap.size + 1)) #[] #[]] ++ lb, W1, ?_, ?_, ?_, ?_, fun _ => h1, ?_⟩
  · rw [← hW1, hrec]; exact run_enterLoop_outer _ _ _ _ _
  · simp only [resolve, hg]
    simp [go_sem]
  · intro f' hf'; simp [Target.leads] at hf'; subst hf'; exact hFg
  · simp [invoke, go_sem, eg]
  · refine (hseq (w.heap.size + 1)
      (fun pre W => I pre W ∧ W.heap[w.heap.size + 1]? = some (.loop (rec .ready none)) ∧ W.heap[w.heap.size]? = some (.deferred (some [])))
      W1 hb1
      (fun s A B row hs hgr hrow => by
        have hkeep : ∀ (k : Nat) (o : Obj), A.heap[k]? = some o → (k < W1.heap.size ∨ o.isWalk = false) → B.heap[k]? = some o := fun k o hk hc =>
          (hgr.block k (Array.getElem?_eq_some_iff.1 hk).1 (fun e => by
            obtain ⟨h2, o2, ho2, hw2⟩ := hrow k e.symm
            rw [hk] at ho2
            cases ho2
            rcases hc with hc | hc
            · omega
            · rw [hw2] at hc; cases hc)).trans hk
        exact ⟨hI s A B hs.1 ⟨hgr.os, hgr.tape, hgr.output, hgr.size, fun k o hk hc => hkeep k o hk (hc.imp (fun h => by omega) isWalk_cells)⟩, hkeep _ _ hs.2.1 (.inr rfl), hkeep _ _ hs.2.2 (.inr rfl)⟩)
      ?_ ⟨hI1, hL1, hK1⟩).mono ?_
    · -- one round
      rintro pre x W ⟨hi, hl, hk⟩ hlen
      have hy := run_yield (P := P) (args := #[enc x]) hl (by rw [hrec]; exact hps.symm)
      rw [hrec] at hy
      refine ⟨fn, _, assign, body, hy, roundIn_of_wpIn hfn (hassign _ pre x W _ (by omega) hi ?_)⟩
      clear hy
      intro a' Wa hm hax
      have hla := hm.keep hl (by simp)
      have hka := hm.keep hk (by simp)
      have hlt : w.heap.size + 1 < Wa.heap.size := (Array.getElem?_eq_some_iff.1 hla).1
      have hia : I pre Wa := hI _ _ _ hi (StepG.ofMod hm)
      refine ⟨_, run_beginRound hla (by rw [hrec]), ?_⟩
      have hl2 : (Wa.putObj (w.heap.size + 1) (.loop { rec .ready none with state := .busy })).heap[w.heap.size + 1]? = some (.loop { rec .ready none with state := .busy }) := World.putObj_heap_same hlt
      have hk2 : (Wa.putObj (w.heap.size + 1) (.loop { rec .ready none with state := .busy })).heap[w.heap.size]? = some (.deferred (some [])) := (World.putObj_heap_other (by omega)).trans hka
      have hi2 : I pre (Wa.putObj (w.heap.size + 1) (.loop { rec .ready none with state := .busy })) := hI _ _ _ hia (stepG_putObj _ hla rfl (by omega))
      have hax2 : Ax x a' (Wa.putObj (w.heap.size + 1) (.loop { rec .ready none with state := .busy })) := hAx _ _ _ _ hax (by simp) (fun k o ho hc => by
        by_cases e : k = w.heap.size + 1
        · subst e; rw [hla] at ho; cases ho; cases hc
        · exact (World.putObj_heap_other e).trans ho)
      refine wpIn_mono (hbody _ pre x a' _ (by omega) hi2 hax2 hlen) ?_
      rintro e a3 W3 hp
      cases e with
      | normal =>
        obtain ⟨hm3, hi3⟩ := hp
        have hl3 := hm3.same _ _ hl2 rfl
        have hk3 := hm3.same _ _ hk2 rfl
        have hr := run_endRound (P := P) none hl3
        rw [hrec] at hr
        refine ⟨_, _, hr, rfl, ⟨hI _ _ _ hi3 (stepG_putObj _ hl3 rfl (by omega)), ?_, (World.putObj_heap_other (by omega)).trans hk3⟩, ?_⟩
        · rw [hrec]; exact World.putObj_heap_same (Array.getElem?_eq_some_iff.1 hl3).1
        · exact (((keepsWalks_mod hm).trans (KeepsWalks.putObj _ hla rfl)).trans hm3.walks).trans (KeepsWalks.putObj _ hl3 rfl)
      | _ => exact hp.elim
    · rintro e W2 ⟨⟨v, rfl⟩, xs, hS, hi, hl, hk⟩
      exact ⟨none, _, by have := run_endLoop (P := P) hl (by rw [hrec]; simp); rw [hrec] at this; exact this, hdone _ xs _ (Nat.le_refl _) hS (hI _ _ _ hi (stepG_putObj _ hl rfl (by omega))) ((World.putObj_heap_other (by omega)).trans hk)⟩
end Go.Proofs.Ytfbcdblgfhekpaa

/- slices.AppendSeq, Collect, SortedFunc of handles. (printed by mk_df6.py) -/
namespace Go.Proofs.Ytfbcdblgfhekpaa
open Go Go.RowKit Go.Maps Go.Shelf
attribute [local go_sem] AllFrom.cons_eq AllFrom.nil_eq putF_nil putF_cons wantedL_none wantedL_some OpGoalT OpGoalV OpGoalQ OpGoalA OpGoalK YieldsR preF_nil preF_cons
attribute [local go_sem] Oper.semAt_some

theorem app_handleIn {F : Fence} {n : Nat} {w : World} {ops : Array Oper} {rest : List Oper} {o : Oper} {a : Act} {Q : Exit → Act → World → Prop} (hgd : o.guard = none) (s x : Operand)
    (ho : o.op = .call { callee := .builtin .append, args := #[s, x], argTypes := #[47, 47] }) (base : Nat) (v : Value) (l : List Hd) (y : Hd) (ad : Addr) (c : Nat)
    (hs : a.eval s = v) (hown : w.ownsRow base 28 2 v l.length (l.flatMap handleC)) (hx : a.eval x = .slice (some ad) 1 c) (hc : ∀ j u, (handleC y)[j]? = some u → w.cell? (ad.add j) = some u)
    (hlen : l.length < 8796093022207) (hbase : base ≤ w.heap.size)
    (h : ∀ v' w', w'.ownsRow base 28 2 v' (l ++ [y]).length ((l ++ [y]).flatMap handleC) → w.grownBy w' v.ownBlock → wpListIn F n Try.prog ops Q rest (a.put o.dst v') w') : wpListIn F n Try.prog ops Q (o :: rest) a w := by
  obtain ⟨i0, hi, hz0, hz1, hz2⟩ := info_parts info_handle
  refine wpListIn_append_own w hgd s x 47 ho base 28 i0 (.agg #[.int .i64 0, .int .i64 0]) 2 16 Try.underlying47 hi hz0 hz1 hz2 rfl (by omega) v l.length _ hs hown ad 1 c (handleC y) hx (by rw [handleC_len]) hc (handleC_one y) (by unfold maxLen; omega) (by omega) hbase ?_
  intro v' w' h1 h2 _
  refine h v' w' ?_ h2
  rw [List.length_append, List.flatMap_append]
  simpa using h1
/-- A row's own block holds cells of its element's type. -/
theorem own_ne_box {W : World} {b : Nat} {E T : TypeId} {z : Nat} {v : Value} {k : Nat} {xs : List Value} {j : Nat} {u : Array Value} (h : W.ownsRow b E z v k xs) (hj : W.heap[j]? = some (.cells u T (0, 0))) (hne : T ≠ E) : some j ≠ v.ownBlock := by
  rcases h.2 with ⟨rfl, _⟩ | ⟨g, cap, cur, rfl, _, hgb, _⟩
  · simp [Value.ownBlock]
  · intro e
    have : j = g := by simpa [Value.ownBlock] using e
    subst this
    rw [hgb] at hj
    cases hj
    exact hne rfl
theorem own_cells {W : World} {b : Nat} {E : TypeId} {z : Nat} {v : Value} {k : Nat} {xs : List Value} (h : W.ownsRow b E z v k xs) : ∀ (j : Nat) (o : Obj), v.ownBlock = some j → W.heap[j]? = some o → o.isCells = true := by
  intro j o hj ho
  rcases h.2 with ⟨rfl, _⟩ | ⟨g, cap, cur, rfl, _, hgb, _⟩
  · simp [Value.ownBlock] at hj
  · have : g = j := by simpa [Value.ownBlock] using hj
    subst this; rw [hgb] at ho; cases ho; rfl
theorem KeptO.of_grown {W W' : World} {row : Option Nat} (hg : W.grownBy W' row) (hrow : ∀ (j : Nat) (o : Obj), row = some j → W.heap[j]? = some o → o.isCells = true) : KeptO W W' :=
  ⟨hg.size, fun k o hk ho => by
    refine (hg.block k (Array.getElem?_eq_some_iff.1 hk).1 ?_).trans hk
    intro e
    rw [hrow k o e.symm hk] at ho; cases ho⟩
theorem KeptO.trans {A B C : World} (h : KeptO A B) (k : KeptO B C) : KeptO A C := ⟨Nat.le_trans h.size k.size, fun i o hi ho => k.same i o (h.same i o hi ho) ho⟩
theorem keptO_below {a w : World} (h : Below a.heap.size a w) : KeptO a w := ⟨h.size, fun k o hk _ => (h.block k (Array.getElem?_eq_some_iff.1 hk).1).trans hk⟩
theorem keptO_setCell {W : World} {b : Nat} {u : Array Value} {T : TypeId} (h : W.heap[b]? = some (.cells u T (0, 0))) (i : Nat) (v : Value) : KeptO W (W.setCell ⟨b, i, none⟩ v) :=
  ⟨by show W.heap.size ≤ (W.heap.modify _ _).size; rw [Array.size_modify]; exact Nat.le_refl _, fun k o hk ho => by
    have hne : k ≠ b := by rintro rfl; rw [h] at hk; cases hk; cases ho
    exact (Below.heap_setCell W ⟨b, i, none⟩ v k hne).trans hk⟩
theorem grown_setCell (W : World) (b : Nat) (v : Value) : W.grownBy (W.setCell ⟨b, 0, none⟩ v) (some b) :=
  ⟨rfl, rfl, rfl, (KeepsWalks.setCell W _ v).size, fun k _ hk => Below.heap_setCell _ _ _ k (fun e => hk (by rw [e]))⟩

/-- Between two rounds of AppendSeq: the box, the row. -/
structure ApJ (w : World) (l : List Hd) (W : World) : Prop where
  box : ∃ v, W.heap[w.heap.size]? = some (.cells #[v] 47 (0, 0)) ∧ W.ownsRow w.heap.size 28 2 v l.length (l.flatMap handleC)
  below : Below w.heap.size w W

section
variable {w : World} {gf : Nat} {lb : Array Value} {S : List Hd → Prop} {N : Nat}
set_option maxRecDepth 20000 in
set_option maxHeartbeats 4000000 in
theorem appSeq_any (eg : ∀ args w, (callFunc gf args).run Try.prog w = .ok (.enter gf args) w) (hN : N ≤ 1200000000000) (hseq : ∀ n, SeqGives Fence.wide n Try.prog gf lb hdV S N w) :
    Calls Try.prog 38 #[.slice none 0 0, .func (.func gf) #[] lb] w fun e w' => ∃ v l, e = .returned v ∧ S l ∧ w'.ownsRow w.heap.size 28 2 v l.length (l.flatMap handleC) ∧ Below w.heap.size w w' := by
  obtain ⟨w0, hw0, hb0, hz0, hs0⟩ := box1 w (.cells #[.slice none 0 0] 47)
  have h0 : ApJ w [] w0 := ⟨⟨_, hz0, ⟨rfl, .inl ⟨rfl, rfl⟩⟩⟩, hb0⟩
  have Hseq := Lib.hid hseq; have H0 := Lib.hid h0; have Hb0 := Lib.hid hb0; have HS0 := Lib.hid hs0
  clear hseq h0 hb0 hs0
  clear hz0
  refine callsIn_wide.1 (callsIn_of_wp_marks (n := 5) Try.func38 rfl trivial (wpIn_wide.2 ?_) rfl)
  simp only [Try.ntmps38, List.size_toArray, List.length_cons, List.length_nil, Nat.reduceAdd, Nat.reduceSub, Array.replicate_succ, Array.replicate_zero, List.push_toArray, List.append_toArray, List.nil_append, List.cons_append]
  go_wp2_with fail
  clear hw0
  refine (wpIn_wide (n := 5)).1 ?_
  refine wp_rangeG (n := 5) rfl (by omega) (gf := gf) (lb := lb) rfl trivial eg (Hseq.out 4) Hb0.out rfl (ApJ w) ?cl H0.out
    (fun (x : Hd) a' W => ∃ Bx, W.heap[Bx]? = some (.cells (handleC x).toArray 28 (0, 0)) ∧ a' = { tmps := #[.slice none 0 0, .func (.func gf) #[] lb, .pointer (some ⟨w.heap.size, 0, none⟩), undef, .slice none 0 0, .pointer (some ⟨Bx, 0, none⟩), .func (.func gf) #[] lb, hdV x, undef, undef, undef, undef, undef], defers := [] })
    (fun x a' X Y h _ k => ?_) ?assign ?body ?done
  case cl =>
    rintro l A B ⟨⟨v, h1, h2⟩, h3⟩ hst
    exact ⟨⟨v, hst.keep _ _ h1 (.inr rfl), hst.row h2⟩, hst.below h3 (by have := HS0.out; omega) h3.size⟩
  case assign =>
    rintro l pre ⟨x0, x1⟩ W K hl hI hK
    simp only [hdV, handleC]
    gi_wp2
    exact hK _ _ ((Mod.refl _ _).alloc _) ⟨W.heap.size, heap_alloc_new W _, rfl⟩
  case body =>
    rintro l pre ⟨x0, x1⟩ a' W hl ⟨⟨v, hbx, hrow⟩, hB⟩ ⟨Bx, hx, rfl⟩ hlen
    simp only [hdV, handleC] at hx ⊢
    have hsz := hB.size
    obtain ⟨W2, hw2, hb2, hz2, hs2⟩ := box1 W (.cells #[.int .i64 x0, .int .i64 x1] 28)
    have hrow2 := hrow.kept (below_grown0 hb2) (Classical.em _)
    have hbx2 := (Mod.ofBelow hb2).keep hbx (by simp)
    have hc2 := new_rec (w := W) (cs := #[.int .i64 x0, .int .i64 x1]) (t := 28) (n := W.heap.size) (xs := handleC (x0, x1)) rfl rfl
    rw [hw2] at hc2
    have q0 := blk_cell hx 0
    have q1 := blk_cell hx 1
    simp only [List.getElem?_toArray, List.getElem?_cons_zero, List.getElem?_cons_succ] at q0 q1
    have ql := blk_lt hx
    have u0 := blk_cell hbx 0
    simp only [List.getElem?_toArray, List.getElem?_cons_zero, List.getElem?_cons_succ] at u0
    have ul := blk_lt hbx
    have Hrow2 := Lib.hid hrow2; have Hbx2 := Lib.hid hbx2; have Hc2 := Lib.hid hc2; have HB := Lib.hid hB; have HB2 := Lib.hid hb2; have HS2 := Lib.hid hs2; have Hlen := Lib.hid hlen
    clear hrow2 hbx2 hc2 hB hb2 hs2 hlen
    clear hx hbx hrow hz2
    gi_wp2_with (first
      | (gi_at_builtin; refine app_handleIn rfl _ _ rfl w.heap.size v pre (x0, x1) ⟨W.heap.size, 0, none⟩ 1 rfl Hrow2.out rfl Hc2.out (by have := Hlen.out; omega) (by have := HS2.out; omega) ?_; intro v' w3 hown3 hg3
         obtain ⟨A3, c3, hv3, -, -⟩ := row_slice hown3
         generalize hn3 : (pre ++ [(x0, x1)]).length = n3 at hown3 hv3
         subst hv3
         have hbx3 := (hg3.block _ (blk_lt Hbx2.out) (own_ne_box Hrow2.out Hbx2.out (by decide))).trans Hbx2.out
         have hk3 : KeptO W w3 := (keptO_below HB2.out).trans (KeptO.of_grown hg3 (own_cells Hrow2.out))
         have hk4 := hk3.trans (keptO_setCell hbx3 0 (.slice A3 n3 c3))
         have hg4 := grown_setCell w3 w.heap.size (.slice A3 n3 c3)
         have hrow4 := hown3.kept hg4 (.inr (fun e => own_ne_box hown3 hbx3 (by decide) e.symm))
         have hb4 : Below w.heap.size w (w3.setCell ⟨w.heap.size, 0, none⟩ (.slice A3 n3 c3)) := ((HB.out.trans (HB2.out.mono hsz)).grown hg3 (by have := HS2.out; omega) (own_ge Hrow2.out)).grown hg4 (by have := hg3.size; have := HS2.out; omega) (fun k e => by cases e; exact Nat.le_refl _)
         have hbx4 := blk_set hbx3 0 (.slice A3 n3 c3)
         have y0 := blk_cell hbx3 0
         simp only [List.getElem?_toArray, List.getElem?_cons_zero, List.getElem?_cons_succ] at y0
         have yl := blk_lt hbx3
         have f0 := blk_free hbx3 0
         have Hk4 := Lib.hid hk4; have Hrow4 := Lib.hid hrow4; have Hb4 := Lib.hid hb4; have Hbx4 := Lib.hid hbx4; have Hn3 := Lib.hid hn3
         clear hk4 hrow4 hb4 hbx4 hn3
         clear hbx3 hk3 hg3 hg4 hown3)
      | fail)
    exact ⟨Hk4.out, ⟨_, Hbx4.out, by rw [Hn3.out]; exact Hrow4.out⟩, Hb4.out⟩
  case done =>
    rintro D xs W hD hS ⟨⟨v, hbx, hrow⟩, hB⟩ hK
    have hDne : D ≠ w.heap.size := by have := HS0.out; omega
    have hfin : ∃ v' l, Ending.returned v = .returned v' ∧ S l ∧ (W.putObj D (.deferred none)).ownsRow w.heap.size 28 2 v' l.length (l.flatMap handleC) ∧ Below w.heap.size w (W.putObj D (.deferred none)) := by
      have hst := stepG_putObj (n := w.heap.size) (.deferred none) hK rfl (by have := HS0.out; omega)
      exact ⟨v, xs, rfl, hS, hst.row hrow, hst.below hB (Nat.le_refl _) hB.size⟩
    have u0 := blk_cell hbx 0
    simp only [List.getElem?_toArray, List.getElem?_cons_zero, List.getElem?_cons_succ] at u0
    have ul := blk_lt hbx
    have Hfin := Lib.hid hfin; have HK := Lib.hid hK
    clear hfin hK
    clear hbx hrow hB hS
    go_wp2
    refine ⟨by simp, .inl ⟨_, _, rfl, run_takeDeferred HK.out, ?_⟩⟩
    refine ⟨v, ?_, Hfin.out⟩
    unfold results; go_simp
  · obtain ⟨Bx, h1, h2⟩ := h
    exact ⟨Bx, k _ _ h1 rfl, h2⟩

set_option maxRecDepth 20000 in
theorem collect_any (eg : ∀ args w, (callFunc gf args).run Try.prog w = .ok (.enter gf args) w) (hN : N ≤ 1200000000000) (hseq : ∀ n, SeqGives Fence.wide n Try.prog gf lb hdV S N w) :
    Calls Try.prog 30 #[.func (.func gf) #[] lb] w fun e w' => ∃ v l, e = .returned v ∧ S l ∧ w'.ownsRow w.heap.size 28 2 v l.length (l.flatMap handleC) ∧ Below w.heap.size w w' := by
  have H1 := Lib.hid (appSeq_any eg hN hseq)
  clear hseq
  go_enter Try.func30, Try.ntmps30
  go_wp2_with fail
  refine H1.out.mono ?_
  rintro e w' ⟨v, l, rfl, hfin⟩
  have Hfin := Lib.hid hfin
  clear hfin
  go_wp2
  refine bodyPost_ret (v := v) (by unfold results; try go_simp) rfl ?_
  exact ⟨v, l, rfl, Hfin.out⟩

/-- Sorted handles in new memory. -/
def SortedH (S : List Hd → Prop) (w : World) (e : Ending) (w' : World) : Prop := ∃ (v : Value) (l l' : List Hd), e = .returned v ∧ S l ∧ l'.Perm l ∧ l'.Pairwise (fun x y => ltOf (fun x y : Hd => cmpH x y) y x = false) ∧ w'.ownsRow w.heap.size 28 2 v l'.length (l'.flatMap handleC) ∧ Below w.heap.size w w'
set_option maxRecDepth 20000 in
theorem sortedFunc_any (eg : ∀ args w, (callFunc gf args).run Try.prog w = .ok (.enter gf args) w) (hN : N ≤ 1200000000000) (hseq : ∀ n, SeqGives Fence.wide n Try.prog gf lb hdV S N w) (hS : ∀ l, S l → l.length ≤ 1200000000000) :
    Calls Try.prog 15 #[.func (.func gf) #[] lb, .func (.func 17) #[] #[]] w (SortedH S w) := by
  have H1 := Lib.hid (collect_any eg hN hseq)
  have HS := Lib.hid hS
  clear hseq hS
  go_enter Try.func15, Try.ntmps15
  go_wp2_with fail
  refine H1.out.mono ?_
  rintro e w1 ⟨v, l, rfl, hSl, hown, hb1⟩
  have H2 := Lib.hid (sortHandles_any hown (HS.out l hSl))
  have Hown := Lib.hid hown; have Hb1 := Lib.hid hb1; have HSl := Lib.hid hSl
  clear hown hb1 hSl
  go_wp2_with fail
  refine H2.out.mono ?_
  rintro e w2 ⟨rfl, l', hp, hpw, hown2, hm⟩
  have hfin : SortedH S w (.returned v) w2 := ⟨v, l, l', rfl, HSl.out, hp, hpw, hown2, Hb1.out.trans (hm.toBelow (by intro k hk; exact own_ge Hown.out k (by simpa using hk)) Hb1.out.size)⟩
  have Hfin := Lib.hid hfin
  clear hfin
  go_wp2
  refine bodyPost_ret (v := v) (by unfold results; try go_simp) rfl Hfin.out
end
end Go.Proofs.Ytfbcdblgfhekpaa

/- A slice literal of one record of integers. -/
namespace Go.Proofs.Ytfbcdblgfhekpaa
open Go Go.RowKit

end Go.Proofs.Ytfbcdblgfhekpaa

/- diff.Between. (printed by mk_df7.py) -/
namespace Go.Proofs.Ytfbcdblgfhekpaa
open Go Go.RowKit Go.Maps Go.Shelf
attribute [local go_sem] AllFrom.cons_eq AllFrom.nil_eq putF_nil putF_cons wantedL_none wantedL_some OpGoalT OpGoalV OpGoalQ OpGoalA OpGoalK YieldsR preF_nil preF_cons

theorem mayB_ok {l : List Rw} (h : mayB l = true) : l.length ≤ 60 ∧ (∀ r ∈ l, 0 ≤ r.1.1 ∧ r.1.1 ≤ 59 ∧ 0 ≤ r.1.2 ∧ r.1.2 ≤ 1000000) ∧ l.Pairwise (fun x y => x.1.1 < y.1.1) := by
  unfold mayB at h
  rw [Bool.and_eq_true] at h
  obtain ⟨h1, h2⟩ := h
  have hk : ∀ n (hn : n < l.length), okAt l n = true := fun n hn => List.all_eq_true.1 h1 n (List.mem_range.2 hn)
  refine ⟨by simpa using h2, ?_, ?_⟩
  · intro r hr
    obtain ⟨i, hi, rfl⟩ := List.mem_iff_getElem.1 hr
    have := hk i hi
    rw [okAt_eq l i hi] at this
    simp only [Bool.and_eq_true, withinB, decide_eq_true_eq] at this
    omega
  · rw [List.pairwise_iff_getElem]
    have step : ∀ k (hk1 : k + 1 < l.length), l[k].1.1 < l[k + 1].1.1 := by
      intro k hk1
      have := hk (k + 1) hk1
      rw [okAt_eq l (k + 1) hk1] at this
      simp only [Bool.and_eq_true] at this
      have := this.2
      unfold prevB at this
      simp only [List.getElem?_eq_getElem (show k < l.length by omega)] at this
      simpa using this
    intro i j hi hj hij
    induction j with
    | zero => omega
    | succ j ih =>
      by_cases e : i = j
      · subst e; exact step i hj
      · exact Int.lt_trans (ih (by omega) (by omega)) (step j hj)
theorem mayB_hd {l : List Rw} (h : mayB l = true) : ∀ r ∈ l, HdR r.1 := by
  intro r hr
  have := (mayB_ok h).2.1 r hr
  unfold HdR InR
  omega
theorem mayB_apart {l : List Rw} (h : mayB l = true) : l.Pairwise (fun x y => x.1 ≠ y.1) := (mayB_ok h).2.2.imp fun {x y} hlt e => by rw [e] at hlt; omega

/-- The handles of both lists, in order. -/
structure BetH (la lb : List Rw) (hs : List Hd) : Prop where
  so : hs.Pairwise (fun x y => ltH x y = true)
  mem : ∀ h, h ∈ hs ↔ hasH la h ∨ hasH lb h
theorem hasH_perm {l l' : List Rw} (h : l.Perm l') (k : Hd) : hasH l k ↔ hasH l' k := ⟨fun ⟨b, hb⟩ => ⟨b, h.mem_iff.1 hb⟩, fun ⟨b, hb⟩ => ⟨b, h.mem_iff.2 hb⟩⟩
theorem betH_of {la lb l' : List Rw} {xs hs : List Hd} (h1 : ∀ h, hasH l' h ↔ hasH la h ∨ hasH lb h) (h2 : l'.Pairwise (fun x y => x.1 ≠ y.1)) (h3 : xs.Perm (l'.map (·.1))) (h4 : hs.Perm xs)
    (h5 : hs.Pairwise (fun x y => ltOf (fun x y : Hd => cmpH x y) y x = false)) : BetH la lb hs := by
  have hp := h4.trans h3
  refine ⟨?_, fun h => ?_⟩
  · have hnd : hs.Pairwise (fun x y => x ≠ y) := by
      have h6 : (l'.map (·.1)).Pairwise (fun x y => x ≠ y) := by rw [List.pairwise_map]; exact h2
      exact (List.Perm.pairwise_iff (fun h => Ne.symm h) hp).2 h6
    refine (h5.and hnd).imp ?_
    rintro x y ⟨e1, e2⟩
    have e1 : ltOf cmpH y x = false := e1
    rw [ltHd_eq] at e1
    cases h : ltH x y with
    | true => rfl
    | false => exact absurd (ltH_tri h e1) e2
  · rw [hp.mem_iff, ← h1 h, List.mem_map]
    exact ⟨fun ⟨⟨a, b⟩, hm, e⟩ => ⟨b, by rw [← e]; exact hm⟩, fun ⟨b, hb⟩ => ⟨_, hb, rfl⟩⟩

theorem blk_piece {w : World} {b : Nat} {cs : List Value} {t : TypeId} (h : w.heap[b]? = some (.cells cs.toArray t (0, 0))) (o : Nat) (xs : List Value) (hx : ∀ j u, xs[j]? = some u → cs[o + j]? = some u) :
    ∀ j u, xs[j]? = some u → w.cell? ((⟨b, o, none⟩ : Addr).add j) = some u := fun j u hu => by
  rw [Addr.add_mid]
  exact (blk_cell h (o + j)).trans (by rw [List.getElem?_toArray]; exact hx j u hu)

end Go.Proofs.Ytfbcdblgfhekpaa

/- The plain law of Between: the merge of two sorted lists. -/
namespace Go.Proofs.Ytfbcdblgfhekpaa
open Go

def SortR (l : List Rw) : Prop := l.Pairwise (fun x y => ltH x.1 y.1 = true)
theorem getM_cons_ne {x : Rw} {a : List Rw} {h : Hd} (hne : h ≠ x.1) : getM (x :: a) h = getM a h := by
  unfold getM
  rw [List.find?_cons_of_neg (by simpa using Ne.symm hne)]
theorem getM_cons_eq (x : Rw) (a : List Rw) : getM (x :: a) x.1 = x.2 := by unfold getM; simp
theorem hasH_nil (h : Hd) : ¬ hasH [] h := by rintro ⟨b, hb⟩; cases hb
theorem getM_nil (h : Hd) : getM [] h = noneB := rfl
theorem SortR.tail {x : Rw} {a : List Rw} (hs : SortR (x :: a)) : SortR a := (List.pairwise_cons.1 hs).2
end Go.Proofs.Ytfbcdblgfhekpaa
