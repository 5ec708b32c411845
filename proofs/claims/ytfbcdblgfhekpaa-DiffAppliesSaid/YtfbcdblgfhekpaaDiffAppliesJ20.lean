import Derived.Test.YtfbcdblgfhekpaaDiffAppliesJ13
import Derived.Test.YtfbcdblgfhekpaaDiffAppliesJ9
/- Families: Adopt. (printed by mk_fam5.py) -/
namespace Go.Proofs.Ytfbcdblgfhekpaa
open Go Go.RowKit Go.Maps Go.Shelf
attribute [local go_sem] AllFrom.cons_eq AllFrom.nil_eq putF_nil putF_cons wantedL_none wantedL_some OpGoalT OpGoalV OpGoalQ OpGoalA OpGoalK YieldsR preF_nil preF_cons
attribute [local go_sem] Oper.semAt_some

section
variable {w : World} {f : Nat} {B : List Bd} {F : List Nat}
end
end Go.Proofs.Ytfbcdblgfhekpaa

/- The reference's bonds: Parent, Children, without, Gone, Loosen. (printed by mk_rf1.py) -/
namespace Go.Proofs.Ytfbcdblgfhekpaa
open Go Go.RowKit
attribute [local go_sem] AllFrom.cons_eq AllFrom.nil_eq putF_nil putF_cons wantedL_none wantedL_some OpGoalT OpGoalV OpGoalQ OpGoalA OpGoalK YieldsR preF_nil preF_cons

section
variable {vg vl vr : Value}
end
end Go.Proofs.Ytfbcdblgfhekpaa

/- The reference's bonds: Parent, Children, Gone, Loosen. (printed by mk_rf2.py) -/
namespace Go.Proofs.Ytfbcdblgfhekpaa
open Go Go.RowKit
attribute [local go_sem] AllFrom.cons_eq AllFrom.nil_eq putF_nil putF_cons wantedL_none wantedL_some OpGoalT OpGoalV OpGoalQ OpGoalA OpGoalK YieldsR preF_nil preF_cons
section
variable {vg vl vr : Value} {w : World} {q : Nat} {B : List Bd} {F : List Nat}
end
end Go.Proofs.Ytfbcdblgfhekpaa

/- The reference's bonds: Loosen, less, Under. (printed by mk_rf3.py) -/
namespace Go.Proofs.Ytfbcdblgfhekpaa
open Go Go.RowKit
attribute [local go_sem] AllFrom.cons_eq AllFrom.nil_eq putF_nil putF_cons wantedL_none wantedL_some OpGoalT OpGoalV OpGoalQ OpGoalA OpGoalK YieldsR preF_nil preF_cons

theorem Turns.same {w w' : World} {F : List Nat} (hb : Below w.heap.size w w') : Turns w F F w' := ⟨(Mod.ofBelow hb).mono (by simp), fun _ h => .inl h⟩
section
variable {vg vl vr : Value} {w : World} {q : Nat} {B : List Bd} {F : List Nat}
set_option maxRecDepth 20000 in
set_option maxHeartbeats 4000000 in
theorem less_any (s g t u : Int) (w : World) : Calls Try.prog 21 #[.agg #[.int .i64 s, .int .i64 g], .agg #[.int .i64 t, .int .i64 u]] w (BoolPost (ltH (s, g) (t, u)) w) := by
  have hB : Below w.heap.size w ((w.alloc (.cells #[.int .i64 s, .int .i64 g] 28)).alloc (.cells #[.int .i64 t, .int .i64 u] 28)) := ((Below.refl _ _).alloc (Nat.le_refl _) _).alloc (by simp) _
  have HB := Lib.hid hB
  clear hB
  unfold ltH
  simp only
  by_cases h1 : s < t
  · rw [show (decide (s < t) || (decide (s = t) && decide (g < u))) = true by simp [h1]]
    go_enter Try.func21, Try.ntmps21
    go_wp2
    go_ret
    exact ⟨rfl, HB.out⟩
  · by_cases h2 : s = t
    · subst h2
      by_cases h3 : g < u
      · rw [show (decide (s < s) || (decide (s = s) && decide (g < u))) = true by simp [h3]]
        go_enter Try.func21, Try.ntmps21
        go_wp2
        go_ret
        exact ⟨rfl, HB.out⟩
      · rw [show (decide (s < s) || (decide (s = s) && decide (g < u))) = false by simp [h3]]
        go_enter Try.func21, Try.ntmps21
        go_wp2
        go_ret
        exact ⟨rfl, HB.out⟩
    · rw [show (decide (s < t) || (decide (s = t) && decide (g < u))) = false by simp [h1, h2]]
      go_enter Try.func21, Try.ntmps21
      go_wp2
      go_ret
      exact ⟨rfl, HB.out⟩

end
end Go.Proofs.Ytfbcdblgfhekpaa

/- The reference's bonds: Adopt. (printed by mk_rf4.py) -/
namespace Go.Proofs.Ytfbcdblgfhekpaa
open Go Go.RowKit
attribute [local go_sem] AllFrom.cons_eq AllFrom.nil_eq putF_nil putF_cons wantedL_none wantedL_some OpGoalT OpGoalV OpGoalQ OpGoalA OpGoalK YieldsR preF_nil preF_cons

section
variable {w5 V V' : World} {l1 l2 : List Bd} {x : Bd} {L : Nat → Bool} {σ : Nat → Value}
end


theorem whiles {α : Type} (p : α → Bool) : ∀ (l : List α) (k : Nat), k ≤ l.length → (∀ j (h : j < l.length), j < k → p l[j] = true) → (∀ h : k < l.length, p l[k] = false) → l.takeWhile p = l.take k ∧ l.dropWhile p = l.drop k
  | [], k, hk, _, _ => by obtain rfl : k = 0 := by simpa using hk
                          exact ⟨rfl, rfl⟩
  | x :: l, 0, _, _, h2 => by
    have : p x = false := h2 (by simp)
    simp [this]
  | x :: l, k + 1, hk, h1, h2 => by
    have hx : p x = true := h1 0 (by simp) (by omega)
    obtain ⟨a, b⟩ := whiles p l k (by simpa using hk) (fun j hj hjk => h1 (j + 1) (by simpa using hj) (by omega)) (fun h => h2 (by simpa using h))
    simp [hx, a, b]
/-- What the first comparison knows. -/
structure IUnd (w1 : World) (l : List Hd) (L : Nat → Bool) (σ : Nat → Value) (V : World) : Prop where
  b : Below w1.heap.size w1 V
  r : L 6 = true → V.ownsRow 0 28 2 (σ 6) l.length (l.flatMap handleC)
theorem IUnd.start {w1 V : World} {l : List Hd} {σ : Nat → Value} (h : Below w1.heap.size w1 V) : IUnd w1 l (fun _ => false) σ V := ⟨h, fun e => (by cases e)⟩
theorem IUnd.read {w1 V : World} {l : List Hd} {L : Nat → Bool} {σ : Nat → Value} (h : IUnd w1 l L σ V) {i : Nat} (hi : 6 ≠ i) (v : Value) : IUnd w1 l (upd L i) (updv σ i v) V := by
  have eL : upd L i 6 = L 6 := by unfold upd; simp [hi]
  have es : updv σ i v 6 = σ 6 := by unfold updv; rw [if_neg hi]
  exact ⟨h.b, by rw [eL, es]; exact h.r⟩
section
variable {vg vl vr : Value} {w : World} {q : Nat} {B : List Bd} {F : List Nat}
end
end Go.Proofs.Ytfbcdblgfhekpaa
