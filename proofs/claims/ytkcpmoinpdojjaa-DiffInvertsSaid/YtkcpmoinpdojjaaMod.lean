/- Words for memory that a call may write: which blocks; rows of records. -/
import Derived.WalkKit
import Derived.Maps.AppendAt
import Derived.Test.YtkcpmoinpdojjaaEqInt
namespace Go.Proofs.Ytkcpmoinpdojjaa
open Go Go.RowKit

/-- w' is w but for the blocks in F, and new ones. -/
structure Mod (F : List Nat) (w w' : World) : Prop where
  os : w'.os = w.os
  tape : w'.tape = w.tape
  output : w'.output = w.output
  size : w.heap.size ≤ w'.heap.size
  block : ∀ k, k < w.heap.size → k ∉ F → w'.heap[k]? = w.heap[k]?

namespace Mod
variable {F G : List Nat} {a b c w w' : World}
theorem refl (F : List Nat) (w : World) : Mod F w w := ⟨rfl, rfl, rfl, Nat.le_refl _, fun _ _ _ => rfl⟩
theorem trans (h : Mod F a b) (k : Mod G b c) (hG : ∀ x ∈ G, x ∈ F ∨ a.heap.size ≤ x) : Mod F a c :=
  ⟨k.os.trans h.os, k.tape.trans h.tape, k.output.trans h.output, Nat.le_trans h.size k.size, fun i hi hF =>
    (k.block i (Nat.lt_of_lt_of_le hi h.size) (fun hg => by
      rcases hG i hg with h' | h'
      · exact hF h'
      · omega)).trans (h.block i hi hF)⟩
theorem step (h : Mod F a b) (k : Mod F b c) : Mod F a c := h.trans k fun _ hx => .inl hx
theorem mono (h : Mod F a b) (hG : ∀ x ∈ F, x ∈ G ∨ a.heap.size ≤ x) : Mod G a b := (refl G a).trans h hG
theorem drew (h : Mod F a w) : Mod F a w.drew := ⟨h.os, h.tape, h.output, h.size, h.block⟩
theorem alloc (h : Mod F a w) (o : Obj) : Mod F a (w.alloc o) :=
  h.trans (G := []) ⟨rfl, rfl, rfl, by simp, fun k hk _ => Below.heap_alloc _ _ _ hk⟩ (by simp)
theorem setCell (h : Mod F a w) {p : Addr} (hp : p.block ∈ F ∨ a.heap.size ≤ p.block) (u : Value) : Mod F a (w.setCell p u) :=
  h.trans (G := [p.block]) ⟨rfl, rfl, rfl, by simp [World.setCell], fun k _ hk => Below.heap_setCell _ _ _ _ (by simpa using hk)⟩ (by simpa using hp)
theorem ofBelow (h : Below w.heap.size w w') : Mod [] w w' := ⟨h.os, h.tape, h.output, h.size, fun k hk _ => h.block k hk⟩
theorem andBelow (h : Mod F a w) (k : Below w.heap.size w w') : Mod F a w' := h.trans (ofBelow k) (by simp)
theorem toBelow {B : Nat} (h : Mod F w w') (hF : ∀ x ∈ F, B ≤ x) (hB : B ≤ w.heap.size) : Below B w w' :=
  ⟨h.os, h.tape, h.output, h.size, fun k hk => h.block k (by omega) (fun hm => by have := hF k hm; omega)⟩
theorem below (h : Mod [] w w') : Below w.heap.size w w' := h.toBelow (by simp) (Nat.le_refl _)
theorem grown {row : Option Nat} (h : Mod F a w) (hg : w.grownBy w' row) (hr : ∀ k, row = some k → k ∈ F ∨ a.heap.size ≤ k) : Mod F a w' :=
  h.trans (G := row.toList) ⟨hg.os, hg.tape, hg.output, hg.size, fun k hk hn => hg.block k hk (fun e => hn (by rw [← e]; simp))⟩ (fun x hx => hr x (by simpa using hx))
theorem keep {k : Nat} {o : Obj} (h : Mod F w w') (hb : w.heap[k]? = some o) (hk : k ∉ F) : w'.heap[k]? = some o := by
  have : k < w.heap.size := by
    rcases Nat.lt_or_ge k w.heap.size with h | h
    · exact h
    · rw [Array.getElem?_eq_none h] at hb; cases hb
  exact (h.block k this hk).trans hb
end Mod

theorem blk_lt {w : World} {k : Nat} {o : Obj} (hb : w.heap[k]? = some o) : k < w.heap.size := by
  rcases Nat.lt_or_ge k w.heap.size with h | h
  · exact h
  · rw [Array.getElem?_eq_none h] at hb; cases hb
theorem blk_cell {w : World} {b : Nat} {cs : Array Value} {e : TypeId} {f : Nat × Nat} (h : w.heap[b]? = some (.cells cs e f)) (i : Nat) : w.cell? ⟨b, i, none⟩ = cs[i]? := by
  simp only [World.cell?, h]
  simp
theorem blk_free {w : World} {b : Nat} {cs : Array Value} {e : TypeId} (h : w.heap[b]? = some (.cells cs e (0, 0))) (i : Nat) : w.frozen? ⟨b, i, none⟩ = false := by
  simp only [World.frozen?, h]
  simp
theorem blk_set {w : World} {b : Nat} {cs : Array Value} {e : TypeId} {f : Nat × Nat} (h : w.heap[b]? = some (.cells cs e f)) (i : Nat) (u : Value) :
    (w.setCell ⟨b, i, none⟩ u).heap[b]? = some (.cells (cs.setIfInBounds i u) e f) := by
  simp [World.setCell, Array.getElem?_modify, h]
theorem blk_set_ne {w : World} {b : Nat} {a : Addr} (hne : b ≠ a.block) (u : Value) : (w.setCell a u).heap[b]? = w.heap[b]? := Below.heap_setCell _ _ _ _ hne
theorem blk_alloc {w : World} {b : Nat} {x : Obj} (h : w.heap[b]? = some x) (o : Obj) : (w.alloc o).heap[b]? = some x := by
  rw [Below.heap_alloc _ _ _ (blk_lt h)]; exact h
theorem blk_drew {w : World} {b : Nat} {x : Obj} (h : w.heap[b]? = some x) : w.drew.heap[b]? = some x := h

section
variable {w w' : World} {B e size n : Nat} {v : Value} {xs : List Value} {F : List Nat}
theorem row_mod (h : w.ownsRow B e size v n xs) (hm : Mod F w w') (hd : ∀ k, v.ownBlock = some k → k ∉ F) : w'.ownsRow B e size v n xs := by
  obtain ⟨hl, h⟩ := h
  refine ⟨hl, ?_⟩
  rcases h with h | ⟨g, cap, cur, rfl, hg, hh, hr⟩
  · exact .inl h
  · exact .inr ⟨g, cap, cur, rfl, hg, hm.keep hh (hd g rfl), hr⟩
theorem row_base (h : w.ownsRow B e size v n xs) {B' : Nat} (hB : ∀ k, v.ownBlock = some k → B' ≤ k) : w.ownsRow B' e size v n xs := by
  obtain ⟨hl, h⟩ := h
  refine ⟨hl, ?_⟩
  rcases h with h | ⟨g, cap, cur, rfl, hg, hh, hr⟩
  · exact .inl h
  · exact .inr ⟨g, cap, cur, rfl, hB g rfl, hh, hr⟩
theorem row_lt (h : w.ownsRow B e size v n xs) : ∀ k, v.ownBlock = some k → k < w.heap.size := fun k hk => (h.lt k hk).2
/-- A row that is not empty. -/
theorem row_some (h : w.ownsRow B e size v n xs) (hn : 0 < n) : ∃ g cap cur, v = .slice (some ⟨g, 0, none⟩) n cap ∧ B ≤ g ∧ w.heap[g]? = some (.cells cur e (0, 0)) ∧ n ≤ cap ∧ cap ≤ maxLen ∧ cur.size = cap * size ∧ cur.toList.take (n * size) = xs := by
  rcases h with ⟨hl, ⟨rfl, rfl⟩ | h⟩
  · omega
  · exact h
theorem row_nil_of (h : w.ownsRow B e size v 0 xs) : xs = [] := List.eq_nil_of_length_eq_zero (by have := h.1; omega)
theorem row_slice (h : w.ownsRow B e size v n xs) : ∃ A cap, v = .slice A n cap ∧ n ≤ cap ∧ cap ≤ maxLen := by
  rcases h with ⟨hl, ⟨rfl, rfl⟩ | ⟨g, cap, cur, rfl, _, _, hn, hc, _⟩⟩
  · exact ⟨none, 0, rfl, Nat.le_refl _, by unfold maxLen; omega⟩
  · exact ⟨_, cap, rfl, hn, hc⟩
/-- A store into a row. -/
theorem row_set {g cap : Nat} (h : w.ownsRow B e size (.slice (some ⟨g, 0, none⟩) n cap) n xs) (i : Nat) (u : Value) :
    (w.setCell ⟨g, i, none⟩ u).ownsRow B e size (.slice (some ⟨g, 0, none⟩) n cap) n (xs.set i u) := by
  obtain ⟨hl, ⟨h, _⟩ | ⟨g', cap', cur, he, hg, hh, hn, hc, hs, hx⟩⟩ := h
  · cases h
  · cases he
    refine ⟨by simpa using hl, .inr ⟨g, cap, _, rfl, hg, blk_set hh i u, hn, hc, by simpa using hs, ?_⟩⟩
    rw [Array.toList_setIfInBounds, ← hx, List.take_set]
theorem row_free {g cap : Nat} (h : w.ownsRow B e size (.slice (some ⟨g, 0, none⟩) n cap) n xs) (i : Nat) : w.frozen? ⟨g, i, none⟩ = false := by
  obtain ⟨hl, ⟨h, _⟩ | ⟨g', cap', cur, he, hg, hh, hr⟩⟩ := h
  · cases h
  · cases he; exact blk_free hh i
theorem row_cell {g cap : Nat} (h : w.ownsRow B e size (.slice (some ⟨g, 0, none⟩) n cap) n xs) {i : Nat} {u : Value} (hi : xs[i]? = some u) : w.cell? ⟨g, i, none⟩ = some u := by
  obtain ⟨hl, ⟨h, _⟩ | ⟨g', cap', cur, he, hg, hh, hn, hc, hs, hx⟩⟩ := h
  · cases h
  · cases he
    rw [blk_cell hh]
    rw [← hx, List.getElem?_take] at hi
    split at hi
    · simpa using hi
    · cases hi
theorem row_lies (h : w.ownsRow B e size v n xs) : ∃ A c, v = .slice A n c ∧ n ≤ c ∧ Lies w w.heap.size A xs := own_lies h
/-- A row that is cut shorter. -/
theorem row_cut {A : Option Addr} {cap : Nat} (h : w.ownsRow B e size (.slice A n cap) n xs) {m : Nat} (hm : m ≤ n) (hA : A ≠ none) : w.ownsRow B e size (.slice A m cap) m (xs.take (m * size)) := by
  obtain ⟨hl, ⟨h, _⟩ | ⟨g', cap', cur, he, hg, hh, hn, hc, hs, hx⟩⟩ := h
  · cases h; exact absurd rfl hA
  · cases he
    have h1 : m * size ≤ n * size := Nat.mul_le_mul_right _ hm
    refine ⟨by rw [List.length_take]; omega, .inr ⟨g', cap, cur, rfl, hg, hh, by omega, hc, hs, ?_⟩⟩
    rw [← hx, List.take_take, Nat.min_eq_left h1]
end

/-! Lists of records, laid flat. -/
section
variable {α : Type} {enc : α → List Value} {n : Nat}
theorem flatV_length (hf : ∀ x, (enc x).length = n) (l : List α) : (l.flatMap enc).length = l.length * n := by
  induction l with
  | nil => simp
  | cons x l ih => simp [ih, hf x, Nat.succ_mul, Nat.add_comm]
theorem flatV_get (hf : ∀ x, (enc x).length = n) : ∀ (l : List α) (k : Nat) (hk : k < l.length) (j : Nat), j < n → (l.flatMap enc)[k * n + j]? = (enc l[k])[j]?
  | x :: l, 0, _, j, hj => by
    simp only [List.flatMap_cons, Nat.zero_mul, Nat.zero_add, List.getElem_cons_zero]
    rw [List.getElem?_append_left (by rw [hf]; exact hj)]
  | x :: l, k + 1, hk, j, hj => by
    simp only [List.flatMap_cons, List.getElem_cons_succ]
    rw [List.getElem?_append_right (by rw [hf, Nat.succ_mul]; omega), hf, show (k + 1) * n + j - n = k * n + j by rw [Nat.succ_mul]; omega]
    exact flatV_get hf l k (by simpa using hk) j hj
theorem flatV_take (hf : ∀ x, (enc x).length = n) : ∀ (l : List α) (k : Nat), (l.flatMap enc).take (k * n) = (l.take k).flatMap enc
  | [], k => by simp
  | x :: l, 0 => by simp
  | x :: l, k + 1 => by
    simp only [List.flatMap_cons, List.take_succ_cons]
    rw [List.take_append, hf, List.take_of_length_le (by rw [hf, Nat.succ_mul]; omega), show (k + 1) * n - n = k * n by rw [Nat.succ_mul]; omega, flatV_take hf l k]
theorem flatV_set (hf : ∀ x, (enc x).length = n) : ∀ (l : List α) (k : Nat) (hk : k < l.length) (j : Nat) (u : Value) (y : α), j < n → (enc l[k]).set j u = enc y → (l.flatMap enc).set (k * n + j) u = (l.set k y).flatMap enc
  | x :: l, 0, _, j, u, y, hj, he => by
    simp only [List.flatMap_cons, Nat.zero_mul, Nat.zero_add, List.set_cons_zero]
    simp only [List.getElem_cons_zero] at he
    rw [List.set_append_left _ _ (by rw [hf]; exact hj), he]
  | x :: l, k + 1, hk, j, u, y, hj, he => by
    simp only [List.flatMap_cons, List.set_cons_succ]
    rw [List.set_append_right _ _ (by rw [hf, Nat.succ_mul]; omega), hf, show (k + 1) * n + j - n = k * n + j by rw [Nat.succ_mul]; omega]
    rw [flatV_set hf l k (by simpa using hk) j u y hj (by simpa using he)]
/-- One record of a list that lies flat. -/
theorem Lies.rec_ {w : World} {B : Nat} {A : Option Addr} {l : List α} (h : Lies w B A (l.flatMap enc)) (hf : ∀ x, (enc x).length = n) (hn : 0 < n) {k : Nat} (hk : k < l.length) :
    ∃ a, A = some a ∧ a.block < B ∧ ∀ j u, (enc l[k])[j]? = some u → w.cell? ((a.add (k * n)).add j) = some u := by
  have hget : ∀ j, j < n → (l.flatMap enc)[k * n + j]? = (enc l[k])[j]? := flatV_get hf l k hk
  have h0 : (l.flatMap enc)[k * n + 0]? = some ((enc l[k])[0]'(by rw [hf]; exact hn)) := by rw [hget 0 hn]; exact List.getElem?_eq_getElem _
  obtain ⟨a, rfl, hb, _⟩ := h _ _ h0
  refine ⟨a, rfl, hb, fun j u hu => ?_⟩
  have hj : j < n := by
    rcases Nat.lt_or_ge j n with h | h
    · exact h
    · rw [List.getElem?_eq_none (by rw [hf]; exact h)] at hu; cases hu
  rw [← hget j hj] at hu
  obtain ⟨a', e, _, hc⟩ := h _ _ hu
  cases e
  rw [add_add_]
  exact hc
/-- A record in a row of one's own. -/
theorem row_rec {B e : Nat} {w : World} {v : Value} {l : List α} (hf : ∀ x, (enc x).length = n) (h : w.ownsRow B e n v l.length (l.flatMap enc)) {k : Nat} (hk : k < l.length) :
    ∃ g cap, v = .slice (some ⟨g, 0, none⟩) l.length cap ∧ ∀ j u, (enc l[k])[j]? = some u → w.cell? ⟨g, k * n + j, none⟩ = some u := by
  obtain ⟨g, cap, cur, rfl, _, hr⟩ := row_some h (by omega)
  refine ⟨g, cap, rfl, fun j u hu => row_cell h ?_⟩
  have hj : j < n := by
    rcases Nat.lt_or_ge j n with h | h
    · exact h
    · rw [List.getElem?_eq_none (by rw [hf]; exact h)] at hu; cases hu
  rw [flatV_get hf l k hk j hj]; exact hu
/-- append of one record onto a row of one's own. -/
theorem app_rec {P : Program} {w : World} {ops : Array Oper} {rest : List Oper} {o : Oper} {a : Act} {Q : Exit → Act → World → Prop} (hgd : o.guard = none) (s x : Operand) (T E : TypeId)
    (ho : o.op = .call { callee := .builtin .append, args := #[s, x], argTypes := #[T, T] }) (ht : P.underlying T = some (.slice E)) {z : Value} {bytes : Nat}
    (hinf : (P.info? E).map (fun i => (i.zero, i.size, i.bytes)) = some (some z, n, bytes)) (hzs : z.cells.size = n) (hn : 0 < n) (hby : 0 < bytes) (hone : ∀ x, ∀ u ∈ enc x, u.oneCell' = true) (hf : ∀ x, (enc x).length = n)
    (base : Nat) (v : Value) (l : List α) (y : α) (ad : Addr) (c : Nat) (hs : a.eval s = v) (hown : w.ownsRow base E n v l.length (l.flatMap enc)) (hx : a.eval x = .slice (some ad) 1 c)
    (hc : ∀ j u, (enc y)[j]? = some u → w.cell? (ad.add j) = some u) (hlen : (l.length + 1) * bytes ≤ 140737488355328) (hbase : base ≤ w.heap.size)
    (h : ∀ v' w', w'.ownsRow base E n v' (l ++ [y]).length ((l ++ [y]).flatMap enc) → w.grownBy w' v.ownBlock → (v'.ownBlock = v.ownBlock ∨ v'.ownBlock = some w.heap.size) → wpList P ops Q rest (a.put o.dst v') w') : wpList P ops Q (o :: rest) a w := by
  obtain ⟨i0, hi, hz0, hz1, hz2⟩ := info_parts hinf
  have h1 : l.length + 1 ≤ (l.length + 1) * bytes := Nat.le_mul_of_pos_right _ hby
  refine wpList_append_own_at w hgd s x T ho base E i0 z n bytes ht hi hz0 hz1 hz2 hzs hn v l.length _ hs hown ad 1 c (enc y) hx (by rw [hf, Nat.one_mul]) hc (hone y) (by unfold maxLen; omega) hlen hbase ?_
  intro v' w' h1 h2 _ h4
  refine h v' w' ?_ h2 h4
  rw [List.length_append, List.flatMap_append]
  simpa using h1
end
end Go.Proofs.Ytkcpmoinpdojjaa
