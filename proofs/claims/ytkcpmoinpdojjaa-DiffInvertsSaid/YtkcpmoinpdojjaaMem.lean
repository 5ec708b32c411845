/- Words for memory: a slice that reads as a list of cells. -/
import Derived.WalkKit
namespace Go.Proofs.Ytkcpmoinpdojjaa
open Go Go.RowKit

theorem add_block (a : Addr) (n : Nat) : (a.add n).block = a.block := by unfold Addr.add; split <;> rfl
theorem add_zero (a : Addr) : a.add 0 = a := rfl
theorem add_add_ (a : Addr) (i j : Nat) : (a.add i).add j = a.add (i + j) := by
  unfold Addr.add
  by_cases hi : i = 0 <;> by_cases hj : j = 0 <;> simp [hi, hj, Nat.add_assoc]

/-- The cells xs lie one behind the other from address A on, in a block below B. -/
def Lies (w : World) (B : Nat) (A : Option Addr) (xs : List Value) : Prop :=
  ∀ k u, xs[k]? = some u → ∃ a, A = some a ∧ a.block < B ∧ w.cell? (a.add k) = some u

section
variable {w w' : World} {B : Nat} {A : Option Addr} {xs : List Value}
theorem Lies.nil (w : World) (B : Nat) (A : Option Addr) : Lies w B A [] := fun k u h => by simp at h
theorem Lies.at_ (h : Lies w B A xs) {k : Nat} (hk : k < xs.length) : ∃ a, A = some a ∧ a.block < B ∧ w.cell? (a.add k) = some xs[k] :=
  h k _ (List.getElem?_eq_getElem hk)
theorem Lies.keep (h : Lies w B A xs) (hk : ∀ p : Addr, p.block < B → w'.cell? p = w.cell? p) : Lies w' B A xs := fun k u hu => by
  obtain ⟨a, e, hb, hc⟩ := h k u hu
  exact ⟨a, e, hb, (hk _ (by rw [add_block]; exact hb)).trans hc⟩
theorem Lies.below (h : Lies w B A xs) (hb : Below B w w') : Lies w' B A xs := h.keep fun _ hp => hb.cell hp
theorem Lies.mono (h : Lies w B A xs) {B' : Nat} (hB : B ≤ B') : Lies w B' A xs := fun k u hu => by
  obtain ⟨a, e, hb, hc⟩ := h k u hu
  exact ⟨a, e, by omega, hc⟩
theorem Lies.take (h : Lies w B A xs) (n : Nat) : Lies w B A (xs.take n) := fun k u hu => by
  rw [List.getElem?_take] at hu
  split at hu
  · exact h k u hu
  · cases hu
end

def ints (zs : List Int) : List Value := zs.map (.int .i64 ·)
theorem ints_length (zs : List Int) : (ints zs).length = zs.length := by simp [ints]
theorem ints_at (zs : List Int) (k : Nat) (h : k < zs.length) : (ints zs)[k]? = some (.int .i64 zs[k]) := by simp [ints, h]
theorem ints_take (zs : List Int) (k : Nat) : (ints zs).take k = ints (zs.take k) := by simp [ints, List.map_take]
theorem Lies.int {w : World} {B : Nat} {A : Option Addr} {zs : List Int} (h : Lies w B A (ints zs)) {k : Nat} (hk : k < zs.length) :
    ∃ a, A = some a ∧ a.block < B ∧ w.cell? (a.add k) = some (.int .i64 zs[k]) := h k _ (ints_at zs k hk)

/-- Is x in the list? (a word of its own, that the walk leaves alone) -/
def hasB {α : Type} [DecidableEq α] (l : List α) (x : α) : Bool := decide (x ∈ l)
theorem hasB_iff {α : Type} [DecidableEq α] (l : List α) (x : α) : hasB l x = true ↔ x ∈ l := by simp [hasB]
theorem hasB_nil {α : Type} [DecidableEq α] (x : α) : hasB [] x = false := by simp [hasB]
theorem hasB_not {α : Type} [DecidableEq α] (l : List α) (x : α) : hasB l x = false ↔ x ∉ l := by simp [hasB]
theorem hasB_snoc {α : Type} [DecidableEq α] (l : List α) (y x : α) : hasB (l ++ [y]) x = (hasB l x || decide (x = y)) := by simp [hasB]
theorem take_succ_get {α : Type} (l : List α) (k : Nat) (h : k < l.length) : l.take (k + 1) = l.take k ++ [l[k]] := List.take_succ_eq_append_getElem h
end Go.Proofs.Ytkcpmoinpdojjaa
