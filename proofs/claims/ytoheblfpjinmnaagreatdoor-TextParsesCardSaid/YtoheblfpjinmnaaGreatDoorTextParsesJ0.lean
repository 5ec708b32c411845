import Derived.WalkKit
import Derived.Lib.Hide
set_option linter.unusedVariables false
set_option linter.unusedSimpArgs false
/- Short words for cells of a block and for hidden facts. -/
namespace Go.Proofs.YtoheblfpjinmnaaGreatDoor
open Go Go.RowKit
theorem cells1 {w : World} {b : Nat} {v0 : Value} {e : TypeId} {f : Nat × Nat} (h : w.heap[b]? = some (.cells #[v0] e f)) : w.cell? ⟨b, 0, none⟩ = some v0 ∧ b < w.heap.size := by
  have hc : ∀ i, w.cell? ⟨b, i, none⟩ = (#[v0] : Array Value)[i]? := fun i => by simp only [World.cell?, h]; simp
  exact ⟨(hc 0).trans rfl, by
    rcases Nat.lt_or_ge b w.heap.size with h' | h'
    · exact h'
    · rw [Array.getElem?_eq_none h'] at h; cases h⟩
theorem cells2 {w : World} {b : Nat} {v0 v1 : Value} {e : TypeId} {f : Nat × Nat} (h : w.heap[b]? = some (.cells #[v0, v1] e f)) : w.cell? ⟨b, 0, none⟩ = some v0 ∧ w.cell? ⟨b, 1, none⟩ = some v1 ∧ b < w.heap.size := by
  have hc : ∀ i, w.cell? ⟨b, i, none⟩ = (#[v0, v1] : Array Value)[i]? := fun i => by simp only [World.cell?, h]; simp
  exact ⟨(hc 0).trans rfl, (hc 1).trans rfl, by
    rcases Nat.lt_or_ge b w.heap.size with h' | h'
    · exact h'
    · rw [Array.getElem?_eq_none h'] at h; cases h⟩
theorem cells3 {w : World} {b : Nat} {v0 v1 v2 : Value} {e : TypeId} {f : Nat × Nat} (h : w.heap[b]? = some (.cells #[v0, v1, v2] e f)) : w.cell? ⟨b, 0, none⟩ = some v0 ∧ w.cell? ⟨b, 1, none⟩ = some v1 ∧ w.cell? ⟨b, 2, none⟩ = some v2 ∧ b < w.heap.size := by
  have hc : ∀ i, w.cell? ⟨b, i, none⟩ = (#[v0, v1, v2] : Array Value)[i]? := fun i => by simp only [World.cell?, h]; simp
  exact ⟨(hc 0).trans rfl, (hc 1).trans rfl, (hc 2).trans rfl, by
    rcases Nat.lt_or_ge b w.heap.size with h' | h'
    · exact h'
    · rw [Array.getElem?_eq_none h'] at h; cases h⟩
theorem cells4 {w : World} {b : Nat} {v0 v1 v2 v3 : Value} {e : TypeId} {f : Nat × Nat} (h : w.heap[b]? = some (.cells #[v0, v1, v2, v3] e f)) : w.cell? ⟨b, 0, none⟩ = some v0 ∧ w.cell? ⟨b, 1, none⟩ = some v1 ∧ w.cell? ⟨b, 2, none⟩ = some v2 ∧ w.cell? ⟨b, 3, none⟩ = some v3 ∧ b < w.heap.size := by
  have hc : ∀ i, w.cell? ⟨b, i, none⟩ = (#[v0, v1, v2, v3] : Array Value)[i]? := fun i => by simp only [World.cell?, h]; simp
  exact ⟨(hc 0).trans rfl, (hc 1).trans rfl, (hc 2).trans rfl, (hc 3).trans rfl, by
    rcases Nat.lt_or_ge b w.heap.size with h' | h'
    · exact h'
    · rw [Array.getElem?_eq_none h'] at h; cases h⟩
theorem cells9 {w : World} {b : Nat} {v0 v1 v2 v3 v4 v5 v6 v7 v8 : Value} {e : TypeId} {f : Nat × Nat} (h : w.heap[b]? = some (.cells #[v0, v1, v2, v3, v4, v5, v6, v7, v8] e f)) : w.cell? ⟨b, 0, none⟩ = some v0 ∧ w.cell? ⟨b, 1, none⟩ = some v1 ∧ w.cell? ⟨b, 2, none⟩ = some v2 ∧ w.cell? ⟨b, 3, none⟩ = some v3 ∧ w.cell? ⟨b, 4, none⟩ = some v4 ∧ w.cell? ⟨b, 5, none⟩ = some v5 ∧ w.cell? ⟨b, 6, none⟩ = some v6 ∧ w.cell? ⟨b, 7, none⟩ = some v7 ∧ w.cell? ⟨b, 8, none⟩ = some v8 ∧ b < w.heap.size := by
  have hc : ∀ i, w.cell? ⟨b, i, none⟩ = (#[v0, v1, v2, v3, v4, v5, v6, v7, v8] : Array Value)[i]? := fun i => by simp only [World.cell?, h]; simp
  exact ⟨(hc 0).trans rfl, (hc 1).trans rfl, (hc 2).trans rfl, (hc 3).trans rfl, (hc 4).trans rfl, (hc 5).trans rfl, (hc 6).trans rfl, (hc 7).trans rfl, (hc 8).trans rfl, by
    rcases Nat.lt_or_ge b w.heap.size with h' | h'
    · exact h'
    · rw [Array.getElem?_eq_none h'] at h; cases h⟩
theorem cells11 {w : World} {b : Nat} {v0 v1 v2 v3 v4 v5 v6 v7 v8 v9 v10 : Value} {e : TypeId} {f : Nat × Nat} (h : w.heap[b]? = some (.cells #[v0, v1, v2, v3, v4, v5, v6, v7, v8, v9, v10] e f)) : w.cell? ⟨b, 0, none⟩ = some v0 ∧ w.cell? ⟨b, 1, none⟩ = some v1 ∧ w.cell? ⟨b, 2, none⟩ = some v2 ∧ w.cell? ⟨b, 3, none⟩ = some v3 ∧ w.cell? ⟨b, 4, none⟩ = some v4 ∧ w.cell? ⟨b, 5, none⟩ = some v5 ∧ w.cell? ⟨b, 6, none⟩ = some v6 ∧ w.cell? ⟨b, 7, none⟩ = some v7 ∧ w.cell? ⟨b, 8, none⟩ = some v8 ∧ w.cell? ⟨b, 9, none⟩ = some v9 ∧ w.cell? ⟨b, 10, none⟩ = some v10 ∧ b < w.heap.size := by
  have hc : ∀ i, w.cell? ⟨b, i, none⟩ = (#[v0, v1, v2, v3, v4, v5, v6, v7, v8, v9, v10] : Array Value)[i]? := fun i => by simp only [World.cell?, h]; simp
  exact ⟨(hc 0).trans rfl, (hc 1).trans rfl, (hc 2).trans rfl, (hc 3).trans rfl, (hc 4).trans rfl, (hc 5).trans rfl, (hc 6).trans rfl, (hc 7).trans rfl, (hc 8).trans rfl, (hc 9).trans rfl, (hc 10).trans rfl, by
    rcases Nat.lt_or_ge b w.heap.size with h' | h'
    · exact h'
    · rw [Array.getElem?_eq_none h'] at h; cases h⟩
theorem hid2 {p0 p1 : Prop} (h0 : p0) (h1 : p1) : Hid p0 ∧ Hid p1 := ⟨Lib.hid h0, Lib.hid h1⟩
theorem hid3 {p0 p1 p2 : Prop} (h0 : p0) (h1 : p1) (h2 : p2) : Hid p0 ∧ Hid p1 ∧ Hid p2 := ⟨Lib.hid h0, Lib.hid h1, Lib.hid h2⟩
theorem hid4 {p0 p1 p2 p3 : Prop} (h0 : p0) (h1 : p1) (h2 : p2) (h3 : p3) : Hid p0 ∧ Hid p1 ∧ Hid p2 ∧ Hid p3 := ⟨Lib.hid h0, Lib.hid h1, Lib.hid h2, Lib.hid h3⟩
theorem hid5 {p0 p1 p2 p3 p4 : Prop} (h0 : p0) (h1 : p1) (h2 : p2) (h3 : p3) (h4 : p4) : Hid p0 ∧ Hid p1 ∧ Hid p2 ∧ Hid p3 ∧ Hid p4 := ⟨Lib.hid h0, Lib.hid h1, Lib.hid h2, Lib.hid h3, Lib.hid h4⟩
theorem hid6 {p0 p1 p2 p3 p4 p5 : Prop} (h0 : p0) (h1 : p1) (h2 : p2) (h3 : p3) (h4 : p4) (h5 : p5) : Hid p0 ∧ Hid p1 ∧ Hid p2 ∧ Hid p3 ∧ Hid p4 ∧ Hid p5 := ⟨Lib.hid h0, Lib.hid h1, Lib.hid h2, Lib.hid h3, Lib.hid h4, Lib.hid h5⟩
theorem hid7 {p0 p1 p2 p3 p4 p5 p6 : Prop} (h0 : p0) (h1 : p1) (h2 : p2) (h3 : p3) (h4 : p4) (h5 : p5) (h6 : p6) : Hid p0 ∧ Hid p1 ∧ Hid p2 ∧ Hid p3 ∧ Hid p4 ∧ Hid p5 ∧ Hid p6 := ⟨Lib.hid h0, Lib.hid h1, Lib.hid h2, Lib.hid h3, Lib.hid h4, Lib.hid h5, Lib.hid h6⟩
theorem hid8 {p0 p1 p2 p3 p4 p5 p6 p7 : Prop} (h0 : p0) (h1 : p1) (h2 : p2) (h3 : p3) (h4 : p4) (h5 : p5) (h6 : p6) (h7 : p7) : Hid p0 ∧ Hid p1 ∧ Hid p2 ∧ Hid p3 ∧ Hid p4 ∧ Hid p5 ∧ Hid p6 ∧ Hid p7 := ⟨Lib.hid h0, Lib.hid h1, Lib.hid h2, Lib.hid h3, Lib.hid h4, Lib.hid h5, Lib.hid h6, Lib.hid h7⟩
theorem hid9 {p0 p1 p2 p3 p4 p5 p6 p7 p8 : Prop} (h0 : p0) (h1 : p1) (h2 : p2) (h3 : p3) (h4 : p4) (h5 : p5) (h6 : p6) (h7 : p7) (h8 : p8) : Hid p0 ∧ Hid p1 ∧ Hid p2 ∧ Hid p3 ∧ Hid p4 ∧ Hid p5 ∧ Hid p6 ∧ Hid p7 ∧ Hid p8 := ⟨Lib.hid h0, Lib.hid h1, Lib.hid h2, Lib.hid h3, Lib.hid h4, Lib.hid h5, Lib.hid h6, Lib.hid h7, Lib.hid h8⟩
theorem hid10 {p0 p1 p2 p3 p4 p5 p6 p7 p8 p9 : Prop} (h0 : p0) (h1 : p1) (h2 : p2) (h3 : p3) (h4 : p4) (h5 : p5) (h6 : p6) (h7 : p7) (h8 : p8) (h9 : p9) : Hid p0 ∧ Hid p1 ∧ Hid p2 ∧ Hid p3 ∧ Hid p4 ∧ Hid p5 ∧ Hid p6 ∧ Hid p7 ∧ Hid p8 ∧ Hid p9 := ⟨Lib.hid h0, Lib.hid h1, Lib.hid h2, Lib.hid h3, Lib.hid h4, Lib.hid h5, Lib.hid h6, Lib.hid h7, Lib.hid h8, Lib.hid h9⟩
theorem hid11 {p0 p1 p2 p3 p4 p5 p6 p7 p8 p9 p10 : Prop} (h0 : p0) (h1 : p1) (h2 : p2) (h3 : p3) (h4 : p4) (h5 : p5) (h6 : p6) (h7 : p7) (h8 : p8) (h9 : p9) (h10 : p10) : Hid p0 ∧ Hid p1 ∧ Hid p2 ∧ Hid p3 ∧ Hid p4 ∧ Hid p5 ∧ Hid p6 ∧ Hid p7 ∧ Hid p8 ∧ Hid p9 ∧ Hid p10 := ⟨Lib.hid h0, Lib.hid h1, Lib.hid h2, Lib.hid h3, Lib.hid h4, Lib.hid h5, Lib.hid h6, Lib.hid h7, Lib.hid h8, Lib.hid h9, Lib.hid h10⟩
theorem hid12 {p0 p1 p2 p3 p4 p5 p6 p7 p8 p9 p10 p11 : Prop} (h0 : p0) (h1 : p1) (h2 : p2) (h3 : p3) (h4 : p4) (h5 : p5) (h6 : p6) (h7 : p7) (h8 : p8) (h9 : p9) (h10 : p10) (h11 : p11) : Hid p0 ∧ Hid p1 ∧ Hid p2 ∧ Hid p3 ∧ Hid p4 ∧ Hid p5 ∧ Hid p6 ∧ Hid p7 ∧ Hid p8 ∧ Hid p9 ∧ Hid p10 ∧ Hid p11 := ⟨Lib.hid h0, Lib.hid h1, Lib.hid h2, Lib.hid h3, Lib.hid h4, Lib.hid h5, Lib.hid h6, Lib.hid h7, Lib.hid h8, Lib.hid h9, Lib.hid h10, Lib.hid h11⟩
theorem hid13 {p0 p1 p2 p3 p4 p5 p6 p7 p8 p9 p10 p11 p12 : Prop} (h0 : p0) (h1 : p1) (h2 : p2) (h3 : p3) (h4 : p4) (h5 : p5) (h6 : p6) (h7 : p7) (h8 : p8) (h9 : p9) (h10 : p10) (h11 : p11) (h12 : p12) : Hid p0 ∧ Hid p1 ∧ Hid p2 ∧ Hid p3 ∧ Hid p4 ∧ Hid p5 ∧ Hid p6 ∧ Hid p7 ∧ Hid p8 ∧ Hid p9 ∧ Hid p10 ∧ Hid p11 ∧ Hid p12 := ⟨Lib.hid h0, Lib.hid h1, Lib.hid h2, Lib.hid h3, Lib.hid h4, Lib.hid h5, Lib.hid h6, Lib.hid h7, Lib.hid h8, Lib.hid h9, Lib.hid h10, Lib.hid h11, Lib.hid h12⟩
theorem hid14 {p0 p1 p2 p3 p4 p5 p6 p7 p8 p9 p10 p11 p12 p13 : Prop} (h0 : p0) (h1 : p1) (h2 : p2) (h3 : p3) (h4 : p4) (h5 : p5) (h6 : p6) (h7 : p7) (h8 : p8) (h9 : p9) (h10 : p10) (h11 : p11) (h12 : p12) (h13 : p13) : Hid p0 ∧ Hid p1 ∧ Hid p2 ∧ Hid p3 ∧ Hid p4 ∧ Hid p5 ∧ Hid p6 ∧ Hid p7 ∧ Hid p8 ∧ Hid p9 ∧ Hid p10 ∧ Hid p11 ∧ Hid p12 ∧ Hid p13 := ⟨Lib.hid h0, Lib.hid h1, Lib.hid h2, Lib.hid h3, Lib.hid h4, Lib.hid h5, Lib.hid h6, Lib.hid h7, Lib.hid h8, Lib.hid h9, Lib.hid h10, Lib.hid h11, Lib.hid h12, Lib.hid h13⟩
theorem hid15 {p0 p1 p2 p3 p4 p5 p6 p7 p8 p9 p10 p11 p12 p13 p14 : Prop} (h0 : p0) (h1 : p1) (h2 : p2) (h3 : p3) (h4 : p4) (h5 : p5) (h6 : p6) (h7 : p7) (h8 : p8) (h9 : p9) (h10 : p10) (h11 : p11) (h12 : p12) (h13 : p13) (h14 : p14) : Hid p0 ∧ Hid p1 ∧ Hid p2 ∧ Hid p3 ∧ Hid p4 ∧ Hid p5 ∧ Hid p6 ∧ Hid p7 ∧ Hid p8 ∧ Hid p9 ∧ Hid p10 ∧ Hid p11 ∧ Hid p12 ∧ Hid p13 ∧ Hid p14 := ⟨Lib.hid h0, Lib.hid h1, Lib.hid h2, Lib.hid h3, Lib.hid h4, Lib.hid h5, Lib.hid h6, Lib.hid h7, Lib.hid h8, Lib.hid h9, Lib.hid h10, Lib.hid h11, Lib.hid h12, Lib.hid h13, Lib.hid h14⟩
theorem hid16 {p0 p1 p2 p3 p4 p5 p6 p7 p8 p9 p10 p11 p12 p13 p14 p15 : Prop} (h0 : p0) (h1 : p1) (h2 : p2) (h3 : p3) (h4 : p4) (h5 : p5) (h6 : p6) (h7 : p7) (h8 : p8) (h9 : p9) (h10 : p10) (h11 : p11) (h12 : p12) (h13 : p13) (h14 : p14) (h15 : p15) : Hid p0 ∧ Hid p1 ∧ Hid p2 ∧ Hid p3 ∧ Hid p4 ∧ Hid p5 ∧ Hid p6 ∧ Hid p7 ∧ Hid p8 ∧ Hid p9 ∧ Hid p10 ∧ Hid p11 ∧ Hid p12 ∧ Hid p13 ∧ Hid p14 ∧ Hid p15 := ⟨Lib.hid h0, Lib.hid h1, Lib.hid h2, Lib.hid h3, Lib.hid h4, Lib.hid h5, Lib.hid h6, Lib.hid h7, Lib.hid h8, Lib.hid h9, Lib.hid h10, Lib.hid h11, Lib.hid h12, Lib.hid h13, Lib.hid h14, Lib.hid h15⟩
theorem gS {α : Type _} {x d : α} {l : List α} {n : Nat} : (x :: l).getD (n + 1) d = l.getD n d := List.getD_cons_succ
theorem gZ {α : Type _} {x d : α} {l : List α} : (x :: l).getD 0 d = x := List.getD_cons_zero
theorem eZ {α : Type _} {x : α} {l : List α} : (x :: l)[0]? = some x := List.getElem?_cons_zero
theorem eS {α : Type _} {x : α} {l : List α} {i : Nat} : (x :: l)[i + 1]? = l[i]? := List.getElem?_cons_succ
theorem eA {α : Type _} {l : List α} {i : Nat} : l.toArray[i]? = l[i]? := List.getElem?_toArray
theorem mC {α β : Type _} {f : α → β} {x : α} {l : List α} : (x :: l).map f = f x :: l.map f := List.map_cons
theorem mN {α β : Type _} {f : α → β} : ([] : List α).map f = [] := List.map_nil
theorem tS {α : Type _} {x : α} {l : List α} {i : Nat} : (x :: l).take (i + 1) = x :: l.take i := List.take_succ_cons
theorem dS {α : Type _} {x : α} {l : List α} {i : Nat} : (x :: l).drop (i + 1) = l.drop i := List.drop_succ_cons
end Go.Proofs.YtoheblfpjinmnaaGreatDoor
