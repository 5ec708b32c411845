import Derived.Test.YtfbcdblgfhekpaaDiffAppliesJ15
import Derived.Test.YtfbcdblgfhekpaaDiffAppliesJ10
import Derived.Test.YtfbcdblgfhekpaaDiffAppliesJ9
import Derived.Test.YtfbcdblgfhekpaaDiffAppliesJ13
/- The reference's zoo: its rows turned; Kill. -/
namespace Go.Proofs.Ytfbcdblgfhekpaa
open Go Go.RowKit
variable {vB : Value}

attribute [local go_sem] AllFrom.cons_eq AllFrom.nil_eq putF_nil putF_cons wantedL_none wantedL_some OpGoalT OpGoalV OpGoalQ YieldsR preF_nil preF_cons

section
variable {w w1 : World} {q : Nat} {sl : Sl} {L L' : List Rw} {F : List Nat} {v : Value}
end
end Go.Proofs.Ytfbcdblgfhekpaa

/- The reference's zoo: Put, Drop. (printed by mk_z4.py) -/
namespace Go.Proofs.Ytfbcdblgfhekpaa
open Go Go.RowKit
variable {{vB : Value}}

attribute [local go_sem] AllFrom.cons_eq AllFrom.nil_eq putF_nil putF_cons wantedL_none wantedL_some OpGoalT OpGoalV OpGoalQ YieldsR preF_nil preF_cons

section
variable {w : World} {q : Nat} {sl : Sl} {L : List Rw} {F : List Nat}
end
end Go.Proofs.Ytfbcdblgfhekpaa

/- The reference's zoo: Spawn. (printed by mk_z5.py) -/
namespace Go.Proofs.Ytfbcdblgfhekpaa
open Go Go.RowKit
variable {vB : Value}

attribute [local go_sem] AllFrom.cons_eq AllFrom.nil_eq putF_nil putF_cons wantedL_none wantedL_some OpGoalT OpGoalV OpGoalQ OpGoalK YieldsR preF_nil preF_cons

theorem yr_appV {P : Program} {o : Oper} {ρ : Operand → Value} {w w' : World} {J : Value → World → Prop} (s x : Operand) (T : TypeId)
    (ho : o.op = .call { callee := .builtin .append, args := #[s, x], argTypes := #[T, T] }) {v' v1 v2 : Value} (h1 : ρ s = v1) (h2 : ρ x = v2) (hr : (Builtin.append_ #[T, T] o.type #[v1, v2]).run P w = .ok v' w') (h : J v' w') : YieldsR P o ρ w J := by
  subst h1 h2
  unfold YieldsR execOp
  simp only [ho, resolve, invoke, builtin, Sem.run_bind, Sem.run_pure, Result.andThen_ok, List.map_toArray, List.map_cons, List.map_nil, hr]
  exact h
/-- What the region that lays the new rows keeps. -/
structure ISp (w5 : World) (l1 l2 : List Rw) (x : Rw) (L : Nat → Bool) (σ : Nat → Value) (V : World) : Prop where
  b : Below w5.heap.size w5 V
  c : L 7 = true → L 12 = false → V.ownsRow w5.heap.size 33 11 (σ 7) l1.length (l1.flatMap rwC)
  o : L 11 = true → L 12 = false → oneR w5.heap.size (rwC x).toArray 33 (σ 11) V
  a : L 12 = true → L 19 = false → V.ownsRow w5.heap.size 33 11 (σ 12) (l1 ++ [x]).length ((l1 ++ [x]).flatMap rwC)
  e : L 19 = true → V.ownsRow w5.heap.size 33 11 (σ 19) (l1 ++ [x] ++ l2).length ((l1 ++ [x] ++ l2).flatMap rwC)
section
variable {w5 V V' : World} {l1 l2 : List Rw} {x : Rw} {L : Nat → Bool} {σ : Nat → Value}
theorem ISp.start (h : Below w5.heap.size w5 V) : ISp w5 l1 l2 x (fun _ => false) σ V := ⟨h, fun e => (by cases e), fun e => (by cases e), fun e => (by cases e), fun e => (by cases e)⟩
theorem ISp.read (h : ISp w5 l1 l2 x L σ V) {i : Nat} (h1 : 7 ≠ i ∧ 11 ≠ i ∧ 12 ≠ i ∧ 19 ≠ i) (v : Value) : ISp w5 l1 l2 x (upd L i) (updv σ i v) V := by
  obtain ⟨n1, n2, n3, n4⟩ := h1
  have eL : ∀ j, j ≠ i → upd L i j = L j := fun j hj => by unfold upd; simp [hj]
  have es : ∀ j, j ≠ i → updv σ i v j = σ j := fun j hj => by unfold updv; rw [if_neg hj]
  refine ⟨h.b, ?_, ?_, ?_, ?_⟩
  · rw [eL 7 n1, eL 12 n3, es 7 n1]; exact h.c
  · rw [eL 11 n2, eL 12 n3, es 11 n2]; exact h.o
  · rw [eL 12 n3, eL 19 n4, es 12 n3]; exact h.a
  · rw [eL 19 n4, es 19 n4]; exact h.e
theorem ISp.copied (h : ISp w5 l1 l2 x L σ V) (h19 : L 19 = false) (hb : Below V.heap.size V V') {v : Value} (hv : V'.ownsRow V.heap.size 33 11 v l1.length (l1.flatMap rwC)) (h12 : L 12 = false) : ISp w5 l1 l2 x (upd L 7) (updv σ 7 v) V' := by
  have eL : ∀ j, j ≠ 7 → upd L 7 j = L j := fun j hj => by unfold upd; simp [hj]
  have es : ∀ j, j ≠ 7 → updv σ 7 v j = σ j := fun j hj => by unfold updv; rw [if_neg hj]
  have hs := h.b.size
  refine ⟨h.b.trans (hb.mono hs), fun _ _ => ?_, ?_, ?_, ?_⟩
  · show V'.ownsRow _ _ _ (updv σ 7 v 7) _ _
    rw [show updv σ 7 v 7 = v from rfl]
    exact row_base hv (fun k hk => by have := (hv.lt k hk).1; omega)
  · rw [eL 11 (by decide), eL 12 (by decide), es 11 (by decide)]; exact fun h1 h2 => oneR_mod (h.o h1 h2) (Mod.ofBelow hb) (by simp)
  · rw [eL 12 (by decide), h12]; intro e; cases e
  · rw [eL 19 (by decide), h19]; intro e; cases e
theorem ISp.oned (h : ISp w5 l1 l2 x L σ V) (h19 : L 19 = false) (h12 : L 12 = false) : ISp w5 l1 l2 x (upd L 11) (updv σ 11 (.slice (some ⟨V.heap.size, 0, none⟩) 1 1)) (V.alloc (.cells (rwC x).toArray 33)) := by
  have eL : ∀ j, j ≠ 11 → upd L 11 j = L j := fun j hj => by unfold upd; simp [hj]
  have es : ∀ v j, j ≠ 11 → updv σ 11 v j = σ j := fun v j hj => by unfold updv; rw [if_neg hj]
  have hs := h.b.size
  refine ⟨h.b.alloc hs _, ?_, fun _ _ => ?_, ?_, ?_⟩
  · rw [eL 7 (by decide), eL 12 (by decide), es _ 7 (by decide)]; exact fun h1 h2 => row_mod (h.c h1 h2) ((Mod.refl [] V).alloc _) (by simp)
  · exact oneR_new hs
  · rw [eL 12 (by decide), h12]; intro e; cases e
  · rw [eL 19 (by decide), h19]; intro e; cases e
theorem ISp.apped (h : ISp w5 l1 l2 x L σ V) (h19 : L 19 = false) (h7 : L 7 = true) (h12 : L 12 = false) {v : Value} (hg : V.grownBy V' (σ 7).ownBlock) (hv : V'.ownsRow w5.heap.size 33 11 v (l1 ++ [x]).length ((l1 ++ [x]).flatMap rwC)) : ISp w5 l1 l2 x (upd L 12) (updv σ 12 v) V' := by
  have eL : ∀ j, j ≠ 12 → upd L 12 j = L j := fun j hj => by unfold upd; simp [hj]
  refine ⟨h.b.trans ((Below.refl w5.heap.size V).grown hg h.b.size (own_ge (h.c h7 h12))), ?_, ?_, fun _ _ => hv, ?_⟩
  · intro _ e; simp [upd] at e
  · intro _ e; simp [upd] at e
  · rw [eL 19 (by decide), h19]; intro e; cases e
theorem ISp.apped2 (h : ISp w5 l1 l2 x L σ V) (h19 : L 19 = false) (h12 : L 12 = true) {v : Value} (hg : V.grownBy V' (σ 12).ownBlock) (hv : V'.ownsRow w5.heap.size 33 11 v (l1 ++ [x] ++ l2).length ((l1 ++ [x] ++ l2).flatMap rwC)) : ISp w5 l1 l2 x (upd L 19) (updv σ 19 v) V' := by
  have eL : ∀ j, j ≠ 19 → upd L 19 j = L j := fun j hj => by unfold upd; simp [hj]
  refine ⟨h.b.trans ((Below.refl w5.heap.size V).grown hg h.b.size (own_ge (h.a h12 h19))), ?_, ?_, ?_, fun _ => hv⟩
  · rw [eL 12 (by decide), h12]; intro _ e; cases e
  · rw [eL 12 (by decide), h12]; intro _ e; cases e
  · intro _ e; simp [upd] at e
end

section
variable {w : World} {q : Nat} {sl : Sl} {L : List Rw} {F : List Nat}

end
end Go.Proofs.Ytfbcdblgfhekpaa

/- l[1:] of a row of rows; R.None. -/
namespace Go.Proofs.Ytfbcdblgfhekpaa
open Go Go.RowKit Go.Maps
attribute [local go_sem] AllFrom.cons_eq AllFrom.nil_eq putF_nil putF_cons wantedL_none wantedL_some OpGoalT OpGoalV OpGoalQ OpGoalA OpGoalK YieldsR preF_nil preF_cons

theorem rNone_any (w : World) : Calls Try.prog 20 #[] w fun e w' => e = .returned (beV noneB) ∧ Below w.heap.size w w' := by
  have HB := Lib.hid (show Below w.heap.size w (w.alloc (.cells #[.int .i64 (-1), .int .i64 0, .int .i64 0, .int .i64 0, .int .i64 0, .int .i64 0, .int .i64 0, .int .i64 0, .int .i64 0] 31)) from (Below.refl _ _).alloc (Nat.le_refl _) _)
  go_enter Try.func20, Try.ntmps20
  go_wp2
  refine bodyPost_ret (v := .agg #[.int .i64 (-1), .int .i64 0, .int .i64 0, .int .i64 0, .int .i64 0, .int .i64 0, .int .i64 0, .int .i64 0, .int .i64 0]) (by unfold results; try go_simp) rfl ?_
  exact ⟨rfl, HB.out⟩
end Go.Proofs.Ytfbcdblgfhekpaa
