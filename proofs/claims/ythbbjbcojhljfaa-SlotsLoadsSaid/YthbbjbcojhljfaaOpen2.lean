/- Slices of bools among the arguments; lists of pairs of integers. -/
import Derived.Test.YthbbjbcojhljfaaTypes
import Derived.Test.YthbbjbcojhljfaaSlot5
namespace Go.Proofs.Ythbbjbcojhljfaa
open Go Go.ChangeShapes Go.WideShapes Go.RowKit

theorem open_slice_bools {H : Type} {enc : TypeId × Value → H} {P : Program} {t e : TypeId} {W : World} {b : Nat} {r : Reach} {v : Value} {d : DataW H} {ps : List MemPlace} {B : Nat} (ht : P.underlying t = some (.slice e))
    (he : P.underlying e = some .bool) (hk : P.cellsOf e = 1) (hv : Value.okWide P W r b t v) (h : DataW.Trod enc P W 0 (fun _ => true) true t v d ps) (hlt : ∀ p ∈ ps, p.block < B) :
    ∃ (A : Option Addr) (n c : Nat) (zs : List Bool), v = .slice A n c ∧ n ≤ c ∧ c ≤ 9223372036854775807 ∧ zs.length = n ∧ Lies W B A (bools zs) := by
  obtain ⟨a0, n0, c0, rfl⟩ := okWide_slice ht hv
  obtain ⟨fuel, hf⟩ := h
  rcases Go.Deep.open_slice ht hf with ⟨hcs, _⟩ | ⟨a, len, cap, m, n, D, Pl, hcs, _, hl, hm, hmm, hx, hi⟩
  · have : a0 = none ∧ n0 = 0 ∧ c0 = 0 := by simpa [Value.cells] using hcs
    obtain ⟨rfl, rfl, rfl⟩ := this
    exact ⟨none, 0, 0, [], rfl, by omega, by omega, rfl, Lies.nil _ _ _⟩
  · have : a0 = some a ∧ n0 = len ∧ c0 = cap := by simpa [Value.cells] using hcs
    obtain ⟨rfl, rfl, rfl⟩ := this
    simp only [if_true] at hmm
    subst hmm
    have hcell : ∀ j, j < n0 → ∃ z, W.cell? (a.add j) = some (.bool z) := by
      intro j hj
      obtain ⟨cs', hc', ht'⟩ := hi j (by omega)
      obtain ⟨_, hl', hat⟩ := World.cells?_some hc'
      obtain ⟨z, hz1, _⟩ := DataW.trod_bool he ht'
      rw [hk] at hat hl'
      have h1 := hat 0 (by omega)
      rw [add_add_, Nat.mul_one, Nat.add_zero, hz1] at h1
      exact ⟨z, h1⟩
    have hblk : n0 ≠ 0 → a.block < B := by
      intro hne
      have hmem : (MemPlace.cell a.block (a.off + 0)) ∈ ps := by
        have : ps = MemPlace.row a (m * P.cellsOf e) ++ (List.range m).flatMap Pl := (Prod.mk.inj hx).2
        rw [this, hk]
        refine List.mem_append.2 (.inl ?_)
        unfold MemPlace.row
        rw [List.mem_map]
        exact ⟨0, by simp; omega, rfl⟩
      exact hlt _ hmem
    let f : Nat → Bool := fun j => match W.cell? (a.add j) with | some (.bool z) => z | _ => false
    have hf' : ∀ j, j < n0 → W.cell? (a.add j) = some (.bool (f j)) := by
      intro j hj
      obtain ⟨z, h1⟩ := hcell j hj
      have : f j = z := by simp only [f, h1]
      rw [this]; exact h1
    refine ⟨some a, n0, _, (List.range n0).map f, rfl, hl, by simpa [maxLen] using hm, by simp, ?_⟩
    intro j u hu
    simp only [bools, List.map_map, List.getElem?_map] at hu
    have hj : j < n0 := by
      rcases Nat.lt_or_ge j n0 with h | h
      · exact h
      · rw [List.getElem?_eq_none (by simpa using h)] at hu; cases hu
    rw [List.getElem?_range hj] at hu
    simp at hu
    subst hu
    exact ⟨a, rfl, hblk (by omega), hf' j hj⟩

def handleI (h : Int × Int) : List Int := [h.1, h.2]
theorem handleI_mk : ∀ zs : List Int, zs.length = 2 → ∃ x, handleI x = zs
  | [a, b], _ => ⟨(a, b), rfl⟩
theorem ints_flatMap {α : Type} (f : α → List Int) (l : List α) : ints (l.flatMap f) = l.flatMap fun x => ints (f x) := by
  unfold ints; rw [List.map_flatMap]
theorem Lies.bool {w : World} {B : Nat} {A : Option Addr} {zs : List Bool} (h : Lies w B A (bools zs)) {k : Nat} (hk : k < zs.length) :
    ∃ b o, A = some ⟨b, o, none⟩ ∧ b < B ∧ w.cell? ⟨b, o + k, none⟩ = some (.bool zs[k]) := by
  have h1 : Lies w B A (zs.flatMap boolC) := by rw [← bools_flat]; exact h
  obtain ⟨b, o, e, hb, hc⟩ := h1.rec_at (n := 1) (fun _ => rfl) (by omega) hk
  have := hc 0 _ rfl
  rw [Nat.mul_one, Nat.add_zero] at this
  exact ⟨b, o, e, hb, this⟩
end Go.Proofs.Ythbbjbcojhljfaa
