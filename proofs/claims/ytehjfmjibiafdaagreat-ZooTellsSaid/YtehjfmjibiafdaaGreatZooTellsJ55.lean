import Derived.Test.YtehjfmjibiafdaaGreatZooTellsJ54
import Derived.Test.YtehjfmjibiafdaaGreatZooTellsJ30
import Derived.Test.YtehjfmjibiafdaaGreatZooTellsJ10
import Derived.Test.YtehjfmjibiafdaaGreatZooTellsJ52
/- The reference's WorldLoad. (printed by mk_wl3.py) -/
namespace Go.Proofs.YtehjfmjibiafdaaGreat
open Go Go.RowKit
variable {vB : Value}

attribute [local go_sem] AllFrom.cons_eq AllFrom.nil_eq putF_nil putF_cons wantedL_none wantedL_some OpGoalT OpGoalV OpGoalQ OpGoalA OpGoalK YieldsR preF_nil preF_cons

/-- Rows that have grown by append, laid into a zoo. -/
theorem RepZ.push {w w0 w1 : World} {q : Nat} {sl : Sl} {L L' : List Rw} {F : List Nat} {vg vl v v' : Value} (h : RepZ vB w q sl L F) (hq : w.heap[q]? = some (.cells #[vg, vl, v, vB] 47 (0, 0))) (hb : Below w.heap.size w w0) (hg : w0.grownBy w1 v.ownBlock) (hv : w1.ownsRow 0 69 11 v' L'.length (L'.flatMap rwC))
    (hl : v'.ownBlock = v.ownBlock ∨ v'.ownBlock = some w0.heap.size) : ∃ F', RepZ vB (w1.setCell ⟨q, 2, none⟩ v') q sl L' F' ∧ Turns w F F' (w1.setCell ⟨q, 2, none⟩ v') := by
  have hlt := h.lt
  obtain ⟨vL, FS, h1, h2, rfl, h3⟩ := h
  have hvL : vL = v := by
    obtain ⟨_, _, h4, -⟩ := h1
    rw [hq] at h4
    simp only [Option.some.injEq, Obj.cells.injEq, Array.mk.injEq, List.cons.injEq] at h4
    exact h4.1.2.2.1.symm
  subst hvL
  have hq' : q ∈ FS := by obtain ⟨_, _, _, _, _, rfl, _⟩ := h1; simp
  have hn : FS.Nodup := (List.nodup_append.1 h3).1
  have hd : ∀ k ∈ vL.ownBlock.toList, k ∉ FS := fun k hk e => (List.nodup_append.1 h3).2.2 k e k hk rfl
  have hFl : ∀ k ∈ FS, k < w.heap.size := fun k hk => hlt k (by simp [hk])
  have hs0 := hb.size
  have hm1 : Mod vL.ownBlock.toList w w1 := ((Mod.ofBelow hb).mono (by simp)).grown hg (fun k hk => .inl (by simp [hk]))
  have hz := h1.turnL (vL' := v') hm1 (fun k hk e => hd k e hk)
  have hdv : ∀ k ∈ v'.ownBlock.toList, k ∉ FS := by
    intro k hk
    rcases hl with e | e
    · rw [e] at hk; exact hd k hk
    · rw [e] at hk
      have : k = w0.heap.size := by simpa using hk
      intro e2; have := hFl k e2; omega
  have hM : Mod [q] w1 (w1.setCell ⟨q, 2, none⟩ v') := (Mod.refl _ _).setCell (.inl (by simp)) v'
  have ho := row_mod hv hM (fun k hk e => hdv k (by simp [hk]) (by simp at e; exact e ▸ hq'))
  refine ⟨FS ++ v'.ownBlock.toList, ⟨v', FS, hz, ho, rfl, ?_⟩, ⟨(hm1.mono (fun x hx => .inl (List.mem_append_right _ hx))).setCell (.inl (List.mem_append_left _ hq')) v', fun k hk => ?_⟩⟩
  · rw [List.nodup_append]
    exact ⟨hn, by cases v'.ownBlock <;> simp, fun a ha b hb' e => hdv b hb' (e ▸ ha)⟩
  · rcases List.mem_append.1 hk with hk | hk
    · exact .inl (by simp [hk])
    · rcases hl with e | e
      · rw [e] at hk; exact .inl (List.mem_append_right _ hk)
      · rw [e] at hk
        have : k = w0.heap.size := by simpa using hk
        exact .inr (by omega)
/-- The region that appends a row to those of the zoo. -/
structure IPush (w0 : World) (v : Value) (L : List Rw) (x : Rw) (Lf : Nat → Bool) (σ : Nat → Value) (V : World) : Prop where
  b : Lf 7 = false → Below w0.heap.size w0 V
  o : Lf 6 = true → Lf 7 = false → oneR w0.heap.size (rwC x).toArray 69 (σ 6) V
  a : Lf 7 = true → ∃ V0, Below w0.heap.size w0 V0 ∧ V0.grownBy V v.ownBlock ∧ V.ownsRow 0 69 11 (σ 7) (L ++ [x]).length ((L ++ [x]).flatMap rwC) ∧ ((σ 7).ownBlock = v.ownBlock ∨ (σ 7).ownBlock = some V0.heap.size)
section
variable {w0 V V' : World} {v : Value} {L : List Rw} {x : Rw} {Lf : Nat → Bool} {σ : Nat → Value}
theorem IPush.start (h : Below w0.heap.size w0 V) : IPush w0 v L x (fun _ => false) σ V := ⟨fun _ => h, fun e => (by cases e), fun e => (by cases e)⟩
theorem IPush.read (h : IPush w0 v L x Lf σ V) {i : Nat} (h1 : 6 ≠ i ∧ 7 ≠ i) (u : Value) : IPush w0 v L x (upd Lf i) (updv σ i u) V := by
  obtain ⟨n1, n2⟩ := h1
  have eL : ∀ j, j ≠ i → upd Lf i j = Lf j := fun j hj => by unfold upd; simp [hj]
  have es : ∀ j, j ≠ i → updv σ i u j = σ j := fun j hj => by unfold updv; rw [if_neg hj]
  refine ⟨?_, ?_, ?_⟩
  · rw [eL 7 n2]; exact h.b
  · rw [eL 6 n1, eL 7 n2, es 6 n1]; exact h.o
  · rw [eL 7 n2, es 7 n2]; exact h.a
theorem IPush.oned (h : IPush w0 v L x Lf σ V) (h7 : Lf 7 = false) : IPush w0 v L x (upd Lf 6) (updv σ 6 (.slice (some ⟨V.heap.size, 0, none⟩) 1 1)) (V.alloc (.cells (rwC x).toArray 69)) := by
  have eL : upd Lf 6 7 = Lf 7 := by unfold upd; simp
  have hs := (h.b h7).size
  refine ⟨fun _ => (h.b h7).alloc hs _, fun _ _ => oneR_new hs, ?_⟩
  rw [eL, h7]; intro e; cases e
theorem IPush.apped (h : IPush w0 v L x Lf σ V) (h7 : Lf 7 = false) {u : Value} (hg : V.grownBy V' v.ownBlock) (hv : V'.ownsRow 0 69 11 u (L ++ [x]).length ((L ++ [x]).flatMap rwC)) (hl : u.ownBlock = v.ownBlock ∨ u.ownBlock = some V.heap.size) : IPush w0 v L x (upd Lf 7) (updv σ 7 u) V' := by
  refine ⟨fun e => by simp [upd] at e, fun _ e => by simp [upd] at e, fun _ => ⟨V, h.b h7, hg, ?_, ?_⟩⟩
  · simpa [updv] using hv
  · simpa [updv] using hl
end
section
variable {w : World} {A A2 : Option Addr} {c c2 : Nat} {gs : List Int} {rows : List Rw}
end
end Go.Proofs.YtehjfmjibiafdaaGreat

/- R.Load. (printed by mk_zload.py) -/
namespace Go.Proofs.YtehjfmjibiafdaaGreat
open Go Go.RowKit
attribute [local go_sem] AllFrom.cons_eq AllFrom.nil_eq putF_nil putF_cons wantedL_none wantedL_some OpGoalT OpGoalV OpGoalQ OpGoalA OpGoalK YieldsR preF_nil preF_cons

theorem q_parent {q : Nat} {sl : Sl} {L : List Rw} {B : List Bd} {w : World} {F : List Nat} (h : RepQ q sl L B w F) (hl : B.length ≤ 60) (s g : Int) : Calls Tryz.prog 20 #[.pointer (some ⟨q, 0, none⟩), .agg #[.int .i64 s, .int .i64 g]] w (fun e w' => e = .returned (.tuple #[hdV (parV (parB B (s, g))), .bool (parB B (s, g)).isSome]) ∧ Below w.heap.size w w') := by
  obtain ⟨vg, vl, vr, FB, h1⟩ := h.b_
  exact rpar_any h1 (by omega) s g

end Go.Proofs.YtehjfmjibiafdaaGreat
