/- The reference's Copy and outside; make in a region. -/
import Derived.Test.YthbbjbcojhljfaaLoad3
namespace Go.Proofs.Ythbbjbcojhljfaa
open Go Go.RowKit

set_option maxHeartbeats 1000000 in
theorem copyInt_any (A : Option Addr) (c : Nat) (l : List Int) (B : Nat) (w : World) (hl : l.length ≤ 60) (hA : Lies w B A (ints l)) (hB : B ≤ w.heap.size) :
    Calls Try.prog 111 #[.slice A l.length c] w (MadeInts w.heap.size l w) := by
  have hrow : w.ownsRow w.heap.size 3 1 (.slice none 0 0) 0 [] := ⟨rfl, .inl ⟨rfl, rfl⟩⟩
  obtain ⟨i0, hi, hz0, hz1, hz2⟩ := info_parts info_int
  have Hi := Lib.hid hi; have Hz0 := Lib.hid hz0; have Hz1 := Lib.hid hz1; have Hz2 := Lib.hid hz2
  clear hi hz0 hz1 hz2
  cases A with
  | none =>
    have hl0 : l = [] := by
      cases l with
      | nil => rfl
      | cons x l =>
        obtain ⟨a, h, -⟩ := hA 0 _ rfl
        cases h
    subst hl0
    clear hA
    go_enter Try.func111, Try.ntmps111
    go_wp2
    go_ret
    exact ⟨_, rfl, hrow, Below.refl _ _⟩
  | some a =>
    have HA := Lib.hid hA
    have hcell : ∀ j u, (ints l)[j]? = some u → w.cell? (a.add j) = some u := by
      intro j u hu
      obtain ⟨a', h, -, hc⟩ := HA.out j u hu
      cases h; exact hc
    have Hc := Lib.hid hcell; have Hr := Lib.hid hrow
    clear hcell hrow hA
    have hone : ∀ u ∈ ints l, u.oneCell' = true := by
      intro u hu
      simp only [ints, List.mem_map] at hu
      obtain ⟨x, -, rfl⟩ := hu
      rfl
    have Ho := Lib.hid hone
    clear hone
    go_enter Try.func111, Try.ntmps111
    go_wp2_with (at_builtin; refine wpList_append_own w rfl _ _ 27 rfl w.heap.size 3 i0 (.int .i64 0) 1 8 Try.underlying27 Hi.out Hz0.out Hz1.out Hz2.out rfl (by omega) (.slice none 0 0) 0 [] rfl Hr.out a l.length c (ints l) rfl (by simp [ints]) Hc.out Ho.out (by unfold maxLen; omega) (by omega) (Nat.le_refl _) ?_; intro v' w' h1 h2 h3)
    go_ret
    refine ⟨_, rfl, by simpa using h1, (Below.refl _ _).grown h2 (Nat.le_refl _) (by simp [Value.ownBlock])⟩
end Go.Proofs.Ythbbjbcojhljfaa
