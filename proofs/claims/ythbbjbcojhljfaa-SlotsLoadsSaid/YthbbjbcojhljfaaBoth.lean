/- Both sides' slots side by side, for the law SlotsLoads (SlotsDo bears its own copy of these lines). -/
import Derived.Test.YthbbjbcojhljfaaOpen2
namespace Go.Proofs.Ythbbjbcojhljfaa
open Go Go.RowKit

theorem eqHandle_rows (l : List (Int × Int)) (v v' : Value) (w : World) (hl : l.length ≤ 60) (h : rowV 0 59 2 l.length (l.flatMap handleC) v w) (h' : rowV 0 59 2 l.length (l.flatMap handleC) v' w) :
    Calls Try.prog 46 #[v, v'] w fun e w' => e = .returned (.bool true) ∧ Below w.heap.size w w' := by
  obtain ⟨A, c, rfl, hc, hA⟩ := own_lies h
  obtain ⟨A', c', rfl, hc', hA'⟩ := own_lies h'
  have := eqHandle_any A c A' c' l l w (by omega) (by omega) hA hA'
  rw [eqB_self] at this
  exact this
theorem eqInt_rows (l : List Int) (v v' : Value) (w : World) (hl : l.length ≤ 60) (h : rowV 0 3 1 l.length (ints l) v w) (h' : rowV 0 3 1 l.length (ints l) v' w) :
    Calls Try.prog 34 #[v, v'] w fun e w' => e = .returned (.bool true) ∧ Below w.heap.size w w' := by
  obtain ⟨A, c, rfl, hc, hA⟩ := own_lies h
  obtain ⟨A', c', rfl, hc', hA'⟩ := own_lies h'
  have := eqInt_any A c A' c' l l _ _ w (by omega) (by omega) hA hA'
  rw [eqB_self] at this
  exact this.mono fun e w' ⟨h1, h2⟩ => ⟨h1, by rw [← h2]; exact Below.refl _ _⟩

/-- What holds of both slots between two rounds. -/
structure Both (W w : World) (p q : Nat) (sl : Sl) (F G : List Nat) : Prop where
  s : RepS w p sl F
  r : RepRS w q sl G
  ok : SlOk sl
  apart : ∀ k ∈ F, k ∉ G
  lowF : ∀ k ∈ F, W.heap.size ≤ k
  lowG : ∀ k ∈ G, W.heap.size ≤ k
  below : Below W.heap.size W w
theorem Both.size {W w : World} {p q : Nat} {sl : Sl} {F G : List Nat} (h : Both W w p q sl F G) : W.heap.size ≤ w.heap.size := h.below.size
theorem Both.grow {W w w' : World} {p q : Nat} {sl : Sl} {F G : List Nat} (h : Both W w p q sl F G) (hb : Below w.heap.size w w') : Both W w' p q sl F G :=
  ⟨h.s.mod (Mod.ofBelow hb) (by simp), h.r.mod (Mod.ofBelow hb) (by simp), h.ok, h.apart, h.lowF, h.lowG, h.below.trans (hb.mono h.size)⟩

theorem Both.step {W wz w3 w3' w4 : World} {p q : Nat} {sl sl' : Sl} {F G F3 G4 : List Nat} (h : Both W wz p q sl F G) (hs : RepS w3 p sl' F3) (ht : Turns wz F F3 w3) (hg : Below w3.heap.size w3 w3') (hr : RepRS w4 q sl' G4) (ht2 : Turns w3' G G4 w4) (hok : SlOk sl') :
    Both W w4 p q sl' F3 G4 := by
  have hGl := h.r.lt
  have hFG : ∀ k ∈ F3, k ∉ G := by
    intro k hk hkG
    rcases ht.new k hk with h1 | h1
    · exact h.apart k h1 hkG
    · have := hGl k hkG; omega
  have hs3 := hs.lt
  have hsz := h.size
  have hsz2 := ht.mod.size
  have hsz3 := hg.size
  refine ⟨(hs.mod (Mod.ofBelow hg) (by simp)).mod ht2.mod hFG, hr, hok, ?_, ?_, ?_, ?_⟩
  · intro k hk hkG
    rcases ht2.new k hkG with h1 | h1
    · exact hFG k hk h1
    · have := hs3 k hk; omega
  · intro k hk
    rcases ht.new k hk with h1 | h1
    · exact h.lowF k h1
    · omega
  · intro k hk
    rcases ht2.new k hk with h1 | h1
    · exact h.lowG k h1
    · omega
  · exact ((h.below.trans (ht.mod.toBelow h.lowF hsz)).trans (hg.mono (by omega))).trans (ht2.mod.toBelow h.lowG (by omega))
theorem Both.refR {W wz w3 w3' : World} {p q : Nat} {sl : Sl} {F G F3 : List Nat} (h : Both W wz p q sl F G) (ht : Turns wz F F3 w3) (hg : Below w3.heap.size w3 w3') : RepRS w3' q sl G :=
  (h.r.mod ht.mod (fun k hk hF => h.apart k hF hk)).mod (Mod.ofBelow hg) (by simp)
end Go.Proofs.Ythbbjbcojhljfaa
