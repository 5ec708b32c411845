import Derived.Test.YtfbcdblgfhekpaaDiffAppliesJ9
import Derived.Test.YtfbcdblgfhekpaaDiffAppliesJ3
import Derived.Test.YtfbcdblgfhekpaaDiffAppliesJ7
import Derived.Test.YtfbcdblgfhekpaaDiffAppliesJ4
import Derived.Carry
/- The two cuts; a beast in a block. -/
namespace Go.Proofs.Ytfbcdblgfhekpaa
open Go Go.RowKit

/-- A beast in block b. -/
def RepBt (w : World) (b : Nat) (K : Int) (l : List Int) : Prop := w.heap[b]? = some (.cells (Value.int .i64 K :: ints l).toArray 31 (0, 0))
theorem RepBt.k {w : World} {b : Nat} {K : Int} {l : List Int} (h : RepBt w b K l) : w.cell? ⟨b, 0, none⟩ = some (.int .i64 K) := by rw [blk_cell h]; simp
theorem RepBt.v {w : World} {b : Nat} {K : Int} {l : List Int} (h : RepBt w b K l) {k : Nat} (hk : k < l.length) : w.cell? ⟨b, 1 + k, none⟩ = some (.int .i64 l[k]) := by
  rw [blk_cell h, Nat.add_comm]
  simp [ints, hk]
theorem RepBt.lt {w : World} {b : Nat} {K : Int} {l : List Int} (h : RepBt w b K l) : b < w.heap.size := blk_lt h
theorem RepBt.set {w : World} {b : Nat} {K : Int} {l : List Int} (h : RepBt w b K l) (k : Nat) (y : Int) : RepBt (w.setCell ⟨b, 1 + k, none⟩ (.int .i64 y)) b K (l.set k y) := by
  unfold RepBt
  rw [blk_set h, Nat.add_comm]
  simp [ints, List.map_set]
theorem RepBt.mod {w w' : World} {b : Nat} {K : Int} {l : List Int} {F : List Nat} (h : RepBt w b K l) (hm : Mod F w w') (hd : b ∉ F) : RepBt w' b K l := hm.keep h hd
end Go.Proofs.Ytfbcdblgfhekpaa

/- Tables: Add that goes through. -/
namespace Go.Proofs.Ytfbcdblgfhekpaa
open Go Go.RowKit

attribute [local go_sem] AllFrom.cons_eq AllFrom.nil_eq putF_nil putF_cons wantedL_none wantedL_some OpGoalT OpGoalV OpGoalQ YieldsR preF_nil preF_cons

section
variable {w : World} {p kn m : Nat} {hs : List Hd} {ls : Nat → List Int} {vh : Value} {cs : List (Nat × Nat)} {Fs : Nat → List Nat}
end
end Go.Proofs.Ytfbcdblgfhekpaa

/- Tables: Remove. -/
namespace Go.Proofs.Ytfbcdblgfhekpaa
open Go Go.RowKit

attribute [local go_sem] AllFrom.cons_eq AllFrom.nil_eq putF_nil putF_cons wantedL_none wantedL_some OpGoalT OpGoalV OpGoalQ YieldsR preF_nil preF_cons

section
variable {w : World} {p kn m : Nat} {hs : List Hd} {ls : Nat → List Int} {vh : Value} {cs : List (Nat × Nat)} {Fs : Nat → List Nat}

end
end Go.Proofs.Ytfbcdblgfhekpaa

/- The reference's table: Row, Remove. -/
namespace Go.Proofs.Ytfbcdblgfhekpaa
open Go Go.RowKit

section
variable {w : World} {q kn : Nat} {rows : List Rw} {vl : Value}
end
end Go.Proofs.Ytfbcdblgfhekpaa

/- The reference's table: Column. -/
namespace Go.Proofs.Ytfbcdblgfhekpaa
open Go Go.RowKit

section
variable {w : World} {q kn : Nat} {rows : List Rw} {vl : Value}
end
end Go.Proofs.Ytfbcdblgfhekpaa

/- The reference's table: Set. -/
namespace Go.Proofs.Ytfbcdblgfhekpaa
open Go Go.RowKit

section
variable {w : World} {q kn : Nat} {rows : List Rw} {vl : Value}
end
end Go.Proofs.Ytfbcdblgfhekpaa

/- The program's Do. -/
namespace Go.Proofs.Ytfbcdblgfhekpaa
open Go Go.RowKit

attribute [local go_sem] AllFrom.cons_eq AllFrom.nil_eq putF_nil putF_cons wantedL_none wantedL_some OpGoalT OpGoalS OpGoalP OpGoalV YieldsR preF_nil preF_cons

end Go.Proofs.Ytfbcdblgfhekpaa

/- The program's Do at a beast that matches. -/
namespace Go.Proofs.Ytfbcdblgfhekpaa
open Go Go.RowKit

attribute [local go_sem] AllFrom.cons_eq AllFrom.nil_eq putF_nil putF_cons wantedL_none wantedL_some OpGoalT OpGoalS OpGoalP OpGoalV YieldsR preF_nil preF_cons

end Go.Proofs.Ytfbcdblgfhekpaa

/- Tables: New. -/
namespace Go.Proofs.Ytfbcdblgfhekpaa
open Go Go.RowKit

end Go.Proofs.Ytfbcdblgfhekpaa

/- Tables: the rows of the reference against the columns. -/
namespace Go.Proofs.Ytfbcdblgfhekpaa
open Go Go.RowKit

end Go.Proofs.Ytfbcdblgfhekpaa

/- Tables: the table and the reference's table side by side. -/
namespace Go.Proofs.Ytfbcdblgfhekpaa
open Go Go.RowKit

section
variable {B : Nat} {Z : List Nat} {w w' : World} {p q kn m : Nat} {cs : List (Nat × Nat)} {rows rows2 : List Rw}
end
end Go.Proofs.Ytfbcdblgfhekpaa

/- Tables side by side: Remove, Set, Row, Column. -/
namespace Go.Proofs.Ytfbcdblgfhekpaa
open Go Go.RowKit

section
variable {B : Nat} {Z : List Nat} {w w' : World} {p q kn m : Nat} {cs : List (Nat × Nat)} {rows rows2 : List Rw}
end
end Go.Proofs.Ytfbcdblgfhekpaa

/- Tables side by side: what stays true from deed to deed. -/
namespace Go.Proofs.Ytfbcdblgfhekpaa
open Go Go.RowKit

end Go.Proofs.Ytfbcdblgfhekpaa

/- Worlds as plain lists: tables by kinds, places by slots, and the rows that they hold. -/
namespace Go.Proofs.Ytfbcdblgfhekpaa
open Go Go.RowKit

abbrev Pl := Nat × Nat × Nat
section
variable {β : Type} {l : List (Nat × β)} {s : Nat} {v v0 : β}
theorem pl_split (hn : (l.map (·.1)).Nodup) (hm : (s, v0) ∈ l) : ∃ l1 l2, l = l1 ++ (s, v0) :: l2 ∧ (∀ x ∈ l1 ++ l2, x.1 ≠ s) := by
  obtain ⟨l1, l2, rfl⟩ := List.append_of_mem hm
  refine ⟨l1, l2, rfl, fun x hx e => ?_⟩
  rw [List.map_append, List.map_cons, List.nodup_append] at hn
  obtain ⟨h1, h2, h3⟩ := hn
  rw [List.nodup_cons] at h2
  rcases List.mem_append.1 hx with hx | hx
  · exact h3 x.1 (List.mem_map.2 ⟨x, hx, rfl⟩) s (by simp) e
  · exact h2.1 (by rw [← e]; exact List.mem_map.2 ⟨x, hx, rfl⟩)
theorem key_one (hn : (l.map (·.1)).Nodup) {a b : β} (h1 : (s, a) ∈ l) (h2 : (s, b) ∈ l) : a = b := by
  obtain ⟨l1, l2, rfl, h⟩ := pl_split hn h1
  rcases List.mem_append.1 h2 with h2 | h2
  · exact absurd rfl (h _ (List.mem_append_left _ h2))
  · rcases List.mem_cons.1 h2 with h2 | h2
    · cases h2; rfl
    · exact absurd rfl (h _ (List.mem_append_right _ h2))
end

/-- Tables (kinds ts, rows rw) and places hold exactly the rows of M. -/
structure WCore (M : Rw → Prop) (ts : List Nat) (rw : Nat → List Rw) (pl : List Pl) : Prop where
  one : ∀ x y, M x → M y → x.1.1 = y.1.1 → x = y
  tn : ts.Nodup
  pn : (pl.map (·.1)).Nodup
  ne : ∀ k ∈ ts, rw k ≠ []
  row : ∀ k ∈ ts, ∀ i x, (rw k)[i]? = some x → M x ∧ x.2.1 = (k : Int) ∧ ∃ s : Nat, x.1.1 = (s : Int) ∧ (s, k, i) ∈ pl
  pla : ∀ s k i, (s, k, i) ∈ pl → k ∈ ts ∧ ∃ x, (rw k)[i]? = some x ∧ x.1.1 = (s : Int)
  has : ∀ x, M x → ∃ s k i : Nat, x.1.1 = (s : Int) ∧ (s, k, i) ∈ pl ∧ (rw k)[i]? = some x

section
variable {M : Rw → Prop} {ts : List Nat} {rw : Nat → List Rw} {pl : List Pl}
theorem WCore.congr {M' : Rw → Prop} (h : WCore M ts rw pl) (e : ∀ x, M x ↔ M' x) : WCore M' ts rw pl := by
  have : M = M' := by funext x; exact propext (e x)
  rw [← this]; exact h
theorem WCore.set (h : WCore M ts rw pl) {x x' : Rw} {s k i : Nat} (hm : (s, k, i) ∈ pl) (hx : (rw k)[i]? = some x) (h1 : x'.1 = x.1) (h2 : x'.2.1 = x.2.1) :
    WCore (fun y => (M y ∧ y ≠ x) ∨ y = x') ts (updL rw k ((rw k).set i x')) pl := by
  obtain ⟨hk, -⟩ := h.pla s k i hm
  obtain ⟨hMx, hxk, s0, hs0, hs1⟩ := h.row k hk i x hx
  have hil := (List.getElem?_eq_some_iff.1 hx).1
  have hget : ∀ j a y, (updL rw k ((rw k).set i x') j)[a]? = some y → (j = k ∧ a = i ∧ y = x') ∨ (¬ (j = k ∧ a = i) ∧ (rw j)[a]? = some y) := by
    intro j a y hy
    by_cases e : j = k
    · subst e
      rw [updL_same, List.getElem?_set] at hy
      by_cases e2 : i = a
      · subst e2; rw [if_pos rfl, if_pos hil] at hy; exact .inl ⟨rfl, rfl, by simpa using hy.symm⟩
      · rw [if_neg e2] at hy; exact .inr ⟨fun h => e2 h.2.symm, hy⟩
    · rw [updL_ne _ _ e] at hy; exact .inr ⟨fun h => e h.1, hy⟩
  have hput : ∀ j a y, ¬ (j = k ∧ a = i) → (rw j)[a]? = some y → (updL rw k ((rw k).set i x') j)[a]? = some y := by
    intro j a y hne hy
    by_cases e : j = k
    · subst e; rw [updL_same, List.getElem?_set, if_neg (fun e2 => hne ⟨rfl, e2.symm⟩)]; exact hy
    · rw [updL_ne _ _ e]; exact hy
  have hself : (updL rw k ((rw k).set i x') k)[i]? = some x' := by rw [updL_same, List.getElem?_set, if_pos rfl, if_pos hil]
  refine ⟨?_, h.tn, h.pn, ?_, ?_, ?_, ?_⟩
  · rintro a b (ha | rfl) (hb | rfl) e
    · exact h.one a b ha.1 hb.1 e
    · exact absurd (h.one a x ha.1 hMx (e.trans (by rw [h1]))) ha.2
    · exact absurd (h.one b x hb.1 hMx (e.symm.trans (by rw [h1]))) hb.2
    · rfl
  · intro j hj
    by_cases e : j = k
    · subst e; rw [updL_same]; intro hnil; rw [List.set_eq_nil_iff] at hnil; exact h.ne j hj hnil
    · rw [updL_ne _ _ e]; exact h.ne j hj
  · intro j hj a y hy
    rcases hget j a y hy with ⟨rfl, rfl, rfl⟩ | ⟨hne, hy⟩
    · exact ⟨.inr rfl, h2.trans hxk, s0, by rw [h1]; exact hs0, hs1⟩
    · obtain ⟨q1, q2, s', q3, q4⟩ := h.row j hj a y hy
      refine ⟨.inl ⟨q1, ?_⟩, q2, s', q3, q4⟩
      rintro rfl
      rw [q3] at hs0
      have : s' = s0 := by omega
      subst this
      have := key_one h.pn q4 hs1
      simp only [Prod.mk.injEq] at this
      exact hne this
  · intro s' j a he
    obtain ⟨q1, y, q2, q3⟩ := h.pla s' j a he
    refine ⟨q1, ?_⟩
    by_cases e : j = k ∧ a = i
    · obtain ⟨rfl, rfl⟩ := e
      rw [hx] at q2; cases q2
      exact ⟨x', hself, by rw [h1]; exact q3⟩
    · exact ⟨y, hput j a y e q2, q3⟩
  · rintro y (⟨hy, hyx⟩ | rfl)
    · obtain ⟨s', j, a, q1, q2, q3⟩ := h.has y hy
      refine ⟨s', j, a, q1, q2, hput j a y (fun e => ?_) q3⟩
      obtain ⟨rfl, rfl⟩ := e
      rw [hx] at q3; cases q3
      exact hyx rfl
    · exact ⟨s0, k, i, by rw [h1]; exact hs0, hs1, hself⟩

end
end Go.Proofs.Ytfbcdblgfhekpaa

/- Worlds in memory. -/
namespace Go.Proofs.Ytfbcdblgfhekpaa
open Go Go.RowKit

theorem Turns.refl (F : List Nat) (w : World) : Turns w F F w := ⟨Mod.refl _ _, fun _ h => .inl h⟩
theorem Turns.trans {a b c : World} {F G H : List Nat} (h : Turns a F G b) (k : Turns b G H c) : Turns a F H c :=
  ⟨h.mod.trans k.mod h.new, fun x hx => by
    rcases k.new x hx with h1 | h1
    · exact h.new x h1
    · have := h.mod.size; exact .inr (by omega)⟩
theorem Turns.below {a b c : World} {F G : List Nat} (h : Turns a F G b) (k : Below b.heap.size b c) : Turns a F G c := ⟨h.mod.andBelow k, h.new⟩
theorem Turns.ofBelow {a b : World} {F : List Nat} (k : Below a.heap.size a b) : Turns a F F b := ⟨(Mod.ofBelow k).mono (by simp), fun _ h => .inl h⟩
theorem Turns.after {a b c : World} {F G : List Nat} (k : Below a.heap.size a b) (h : Turns b F G c) : Turns a F G c := (Turns.ofBelow k).trans h

/-! Tables by their blocks alone. -/
section
variable {w : World} {p kn : Nat} {rows : List Rw} {F : List Nat}
end

/-! Maps with integer keys. -/
section
variable {β : Type} {enc : Nat × β → Value × Value} {w : World} {b : Nat} {l : List (Nat × β)} {t e : TypeId}
end

section
variable {w w1 w2 w' : World} {p ps mt mp : Nat} {sl : Sl} {tb : List (Nat × Nat)} {rw : Nat → List Rw} {pl : List Pl} {FS : List Nat} {Fs : Nat → List Nat} {c : Nat → Nat}
end
end Go.Proofs.Ytfbcdblgfhekpaa

/- Worlds: lay a beast into its table. -/
namespace Go.Proofs.Ytfbcdblgfhekpaa
open Go Go.RowKit

attribute [local go_sem] AllFrom.cons_eq AllFrom.nil_eq putF_nil putF_cons wantedL_none wantedL_some OpGoalT OpGoalV OpGoalQ YieldsR preF_nil preF_cons

theorem below_drew {w : World} : Below w.heap.size w w.drew := (Below.refl _ _).drew
section
variable {w : World} {p ps mt mp : Nat} {sl : Sl} {tb : List (Nat × Nat)} {rw : Nat → List Rw} {pl : List Pl} {FS : List Nat} {Fs : Nat → List Nat} {c : Nat → Nat}

end
end Go.Proofs.Ytfbcdblgfhekpaa

/- A region whose drawn head reads, but for one operation that turns the world. -/
namespace Go.Proofs.Ytfbcdblgfhekpaa
open Go Go.RowKit

section
variable {P : Program}
def OpGoalA (P : Program) (dsts : List (Option Tmp)) (pre : List (List Nat)) (vs : List Value) (a b : World) (n : Nat) (a0 : Act) (i : Nat) (o : Oper) : Prop :=
  ∀ (σ : Nat → Value), PreF (vs.map isV) σ a (pre.getD i []) →
    if i = n then (wantedL dsts (putF dsts σ (pre.getD i []) a0) o.guard = true ∧ YieldsR P o (putF dsts σ (pre.getD i []) a0).eval a (PostS (vs.getD i undef) b))
    else if wantedL dsts (putF dsts σ (pre.getD i []) a0) o.guard = true then YieldsR P o (putF dsts σ (pre.getD i []) a0).eval a (PostS (vs.getD i undef) a) ∧ YieldsR P o (putF dsts σ (pre.getD i []) a0).eval b (PostS (vs.getD i undef) b)
    else vs.getD i undef = undef
end
end Go.Proofs.Ytfbcdblgfhekpaa

/- Worlds: lift a beast out of its table. (printed by mk_w4.py) -/
namespace Go.Proofs.Ytfbcdblgfhekpaa
open Go Go.RowKit

attribute [local go_sem] AllFrom.cons_eq AllFrom.nil_eq putF_nil putF_cons wantedL_none wantedL_some OpGoalT OpGoalV OpGoalQ OpGoalA YieldsR preF_nil preF_cons

section
variable {w : World} {p ps mt mp : Nat} {sl : Sl} {tb : List (Nat × Nat)} {rw : Nat → List Rw} {pl : List Pl} {FS : List Nat} {Fs : Nat → List Nat} {c : Nat → Nat}

end
end Go.Proofs.Ytfbcdblgfhekpaa

/- Worlds as plain lists: slots and rows in order of slots; what the calls make of them. -/
namespace Go.Proofs.Ytfbcdblgfhekpaa
open Go Go.RowKit

def beastZ : Bt → Int
  | (K, a0, a1, a2, a3, a4, a5, a6, a7) => beastE K [a0, a1, a2, a3, a4, a5, a6, a7]
theorem allFrom_lo {l : Sl} {k : Nat} {h : Hd} (hh : h ∈ allFrom k l) : (k : Int) ≤ h.1 ∧ h.1 < ((k + l.length : Nat) : Int) := by
  obtain ⟨s, g⟩ := h
  obtain ⟨j, rfl, hj, -⟩ := (mem_allFrom l k s g).1 hh
  exact ⟨by simp only; omega, by simp only; omega⟩
theorem allFrom_sorted : ∀ (l : Sl) (k : Nat), (allFrom k l).Pairwise (fun a b => a.1 < b.1)
  | [], _ => by simp [allFrom]
  | x :: l, k => by
    rw [allFrom]
    split
    · rw [List.singleton_append, List.pairwise_cons]
      exact ⟨fun y hy => by have := (allFrom_lo hy).1; simp only; omega, allFrom_sorted l (k + 1)⟩
    · rw [List.nil_append]; exact allFrom_sorted l (k + 1)
/-- Rows beside slots. -/
structure WOk (sl : Sl) (L : List Rw) : Prop where
  ok : SlOk sl
  hs : L.map (·.1) = allS sl
  be : ∀ x ∈ L, beastZ x.2 = 0
section
variable {sl : Sl} {L : List Rw}
theorem WOk.len (h : WOk sl L) : L.length ≤ 60 := by
  have := congrArg List.length h.hs
  rw [List.length_map] at this
  have h1 := allS_len sl
  have := h.ok.1
  omega
theorem WOk.sorted (h : WOk sl L) : L.Pairwise (fun a b => a.1.1 < b.1.1) := by
  have := allFrom_sorted sl 0
  rw [show allFrom 0 sl = L.map (·.1) from h.hs.symm, List.pairwise_map] at this
  exact this
theorem WOk.one (h : WOk sl L) {x y : Rw} (hx : x ∈ L) (hy : y ∈ L) (e : x.1.1 = y.1.1) : x = y := by
  obtain ⟨i, hi, rfl⟩ := List.mem_iff_getElem.1 hx
  obtain ⟨j, hj, rfl⟩ := List.mem_iff_getElem.1 hy
  have hp := List.pairwise_iff_getElem.1 h.sorted
  rcases Nat.lt_trichotomy i j with h1 | h1 | h1
  · have := hp i j hi hj h1; omega
  · subst h1; rfl
  · have := hp j i hj hi h1; omega
theorem WOk.set (h : WOk sl L) {i : Nat} {x' : Rw} (hi : i < L.length) (h1 : x'.1 = L[i].1) (hb : beastZ x'.2 = 0) : WOk sl (L.set i x') := by
  refine ⟨h.ok, ?_, fun x hx => ?_⟩
  · rw [← h.hs]
    apply List.ext_getElem?
    intro j
    rw [List.getElem?_map, List.getElem?_map, List.getElem?_set]
    by_cases e : i = j
    · subst e; simp [hi, h1]
    · simp [e]
  · rcases List.mem_or_eq_of_mem_set hx with hx | rfl
    · exact h.be x hx
    · exact hb
end

/-! What the calls make of rows. -/
def putBad (k n : Int) : Prop := (k < 0 ∨ 7 < k) ∨ (n < -1000000000 ∨ 1000000000 < n)
instance (k n : Int) : Decidable (putBad k n) := by unfold putBad; infer_instance
section
variable {sl : Sl} {L : List Rw}
end
end Go.Proofs.Ytfbcdblgfhekpaa

/- Worlds in memory by their slots and rows: New, and the two inner calls. -/
namespace Go.Proofs.Ytfbcdblgfhekpaa
open Go Go.RowKit

section
variable {w : World} {p ps mt mp : Nat} {sl : Sl} {tb : List (Nat × Nat)} {rw : Nat → List Rw} {pl : List Pl} {FS : List Nat} {Fs : Nat → List Nat} {c : Nat → Nat} {M : Rw → Prop} {L : List Rw}
theorem WCore.len (h : WCore M (tb.map (·.1)) rw pl) (hL : ∀ y, M y → y ∈ L) {k : Nat} (hk : k ∈ tb.map (·.1)) : (rw k).length ≤ L.length := by
  refine List.Nodup.length_le_of_subset ?_ fun y hy => ?_
  · refine List.pairwise_iff_getElem.2 fun i j hi hj hij e => ?_
    obtain ⟨-, -, s, q1, q2⟩ := h.row k hk i _ (List.getElem?_eq_getElem hi)
    obtain ⟨-, -, s', q3, q4⟩ := h.row k hk j _ (List.getElem?_eq_getElem hj)
    rw [e] at q1
    have : s = s' := by omega
    subst this
    have := key_one h.pn q2 q4
    simp only [Prod.mk.injEq] at this
    omega
  · obtain ⟨i, hi, rfl⟩ := List.mem_iff_getElem.1 hy
    exact hL _ (h.row k hk i _ (List.getElem?_eq_getElem hi)).1
end
end Go.Proofs.Ytfbcdblgfhekpaa

/- Worlds: Spawn, Kill. (printed by mk_w7.py) -/
namespace Go.Proofs.Ytfbcdblgfhekpaa
open Go Go.RowKit

theorem box1 (w : World) (o1 : Obj) : ∃ w0, w.alloc o1 = w0 ∧ Below w.heap.size w w0 ∧ w0.heap[w.heap.size]? = some o1 ∧ w0.heap.size = w.heap.size + 1 :=
  ⟨_, rfl, (Below.refl _ _).alloc (Nat.le_refl _) _, (MapKept.heap_alloc w o1).1, by simp⟩

attribute [local go_sem] AllFrom.cons_eq AllFrom.nil_eq putF_nil putF_cons wantedL_none wantedL_some OpGoalT OpGoalV OpGoalQ OpGoalA YieldsR preF_nil preF_cons

section
variable {w : World} {p : Nat} {sl : Sl} {L : List Rw} {F : List Nat}

end
end Go.Proofs.Ytfbcdblgfhekpaa

/- Worlds: Kill, Get. (printed by mk_w8.py) -/
namespace Go.Proofs.Ytfbcdblgfhekpaa
open Go Go.RowKit

attribute [local go_sem] AllFrom.cons_eq AllFrom.nil_eq putF_nil putF_cons wantedL_none wantedL_some OpGoalT OpGoalV OpGoalQ OpGoalA YieldsR preF_nil preF_cons

section
variable {w : World} {p : Nat} {sl : Sl} {L : List Rw} {F : List Nat}

end
end Go.Proofs.Ytfbcdblgfhekpaa

/- A region whose drawn head has known values, but for those of a list of operations; what the world is, an invariant says. -/
namespace Go.Proofs.Ytfbcdblgfhekpaa
open Go Go.RowKit

structure PostK (i : Nat) (n : List Nat) (c : Value) (J : Value → World → Prop) (v : Value) (w : World) : Prop where
  val : i ∈ n ∨ v = c
  inv : J v w
section
variable {P : Program}
def vpK (n : List Nat) : Nat → List Value → List (Value → World → Prop)
  | _, [] => []
  | k, v :: vs => (fun u _ => k ∈ n ∨ u = v) :: vpK n (k + 1) vs
theorem vpK_get (n : List Nat) : ∀ (vs : List Value) (k i : Nat), i < vs.length → (vpK n k vs).getD i (fun _ _ => True) = fun u _ => k + i ∈ n ∨ u = vs.getD i undef
  | [], _, _, h => by simp at h
  | v :: vs, k, 0, _ => rfl
  | v :: vs, k, i + 1, h => by
    have := vpK_get n vs (k + 1) i (by simpa using h)
    rw [show k + 1 + i = k + (i + 1) by omega] at this
    exact this
theorem keepAll_vpK {n : List Nat} {σ : Nat → Value} {L : Nat → Bool} {w w' : World} : ∀ (vs : List Value) (k j : Nat), KeepAll σ L w w' k (vpK n j vs)
  | [], _, _ => trivial
  | _ :: vs, k, j => ⟨fun _ h => h, keepAll_vpK vs (k + 1) (j + 1)⟩
/-- What is known of the values numbered in the list. -/
def PreK (n : List Nat) (vs : List Value) (σ : Nat → Value) : List Nat → Prop
  | [] => True
  | j :: l => (j ∈ n ∨ σ j = vs.getD j undef) ∧ PreK n vs σ l
theorem preK_nil {n : List Nat} {vs : List Value} {σ : Nat → Value} : PreK n vs σ [] = True := rfl
theorem preK_cons {n : List Nat} {vs : List Value} {σ : Nat → Value} {j : Nat} {l : List Nat} : PreK n vs σ (j :: l) = ((j ∈ n ∨ σ j = vs.getD j undef) ∧ PreK n vs σ l) := rfl
theorem preK_of {n : List Nat} {vs : List Value} {σ : Nat → Value} {w : World} : ∀ (l : List Nat), (∀ j ∈ l, j < vs.length) → PreF (vpK n 0 vs) σ w l → PreK n vs σ l
  | [], _, _ => trivial
  | j :: l, hl, h => by
    refine ⟨?_, preK_of l (fun x hx => hl x (by simp [hx])) h.2⟩
    have h1 := h.1
    rw [vpK_get n vs 0 j (hl j (by simp))] at h1
    simpa using h1
def OpGoalK (P : Program) (dsts : List (Option Tmp)) (pre : List (List Nat)) (vs : List Value) (n : List Nat) (I : (Nat → Bool) → (Nat → Value) → World → Prop) (a0 : Act) (i : Nat) (o : Oper) : Prop :=
  ∀ (L : Nat → Bool) (σ : Nat → Value) (w : World), L i = false → (∀ j ∈ pre.getD i [], L j = true) → (∀ k, i ∈ pre.getD k [] → L k = false) → I L σ w → PreK n vs σ (pre.getD i []) →
    if wantedL dsts (putF dsts σ (pre.getD i []) a0) o.guard = true then YieldsR P o (putF dsts σ (pre.getD i []) a0).eval w (PostK i n (vs.getD i undef) (fun v => I (upd L i) (updv σ i v)))
    else PostK i n (vs.getD i undef) (fun v => I (upd L i) (updv σ i v)) undef w
/-- A region that draws its order: all values of its head are known, but for those of the operations n. -/
theorem wp_planK {Q : Exit → Act → World → Prop} {id : Nat} {l : List Oper} {a0 : Act} {w0 : World} (n : List Nat) (m : Nat) (fl : List Nat) (dsts : List (Option Tmp)) (pre : List (List Nat)) (is : List Nat) (I : (Nat → Bool) → (Nat → Value) → World → Prop)
    (hm : P.follows .mixedOrders = true) (hd : l.map (·.dst) = dsts) (hc : planOk l.toArray pre = true) (hT : tailOkB l pre m fl = true) (hmn : m ≤ l.length) (hpm : (pre.take m).all (fun q => q.all (fun j => decide (j < m))) = true)
    (h0 : I (fun _ => false) (fun _ => undef) w0.drew) (his : List.range m = is)
    (h : ExL m fun vs => vs.length = m ∧ AllFrom (OpGoalK P dsts pre vs n I a0) 0 (l.take m) ∧
      (∀ (L : Nat → Bool) (σ : Nat → Value) w, (∀ i ∈ is, L i = true) → I L σ w → PreK n vs σ is → wpList P l.toArray (OnlyN Q) (l.drop m) (putF dsts σ is a0) w)) :
    (Code.region id l.toArray true).wp P Q a0 w0 := by
  obtain ⟨vs, hl, h1, h2⟩ := h.out
  have hpre : ∀ i, i < m → ∀ j ∈ pre.getD i [], j < vs.length := by
    intro i hi j hj
    rw [hl]
    cases hg : pre[i]? with
    | none => rw [List.getD_eq_getElem?_getD, hg] at hj; simp at hj
    | some q =>
      rw [List.getD_eq_getElem?_getD, hg] at hj
      simp only [Option.getD_some] at hj
      have hq : q ∈ pre.take m := by
        refine List.mem_of_getElem? (i := i) ?_
        rw [List.getElem?_take, if_pos hi]; exact hg
      have := List.all_eq_true.1 (List.all_eq_true.1 hpm q hq) j hj
      simpa using this
  refine wp_planF m fl dsts pre is 0 (fun _ => vpK n 0 vs) I hm hd hc hT hmn h0 his ?_
  show _ ∧ _
  refine ⟨allFrom_imp _ _ (fun j o hj hp => ?_) h1, fun L σ w hL hI hq => h2 L σ w hL hI (preK_of is (fun i hi => by rw [hl]; rw [← his] at hi; simpa using hi) hq)⟩
  have hjm : j < m := by
    rcases Nat.lt_or_ge j m with h | h
    · exact h
    · rw [List.getElem?_eq_none (by rw [List.length_take]; omega)] at hj; cases hj
  intro L σ w hL1 hL2 hL3 hI hq
  simp only [Nat.zero_add] at hp hL1 hL2 hL3 hq ⊢
  have := hp L σ w hL1 hL2 hL3 hI (preK_of _ (hpre j hjm) hq)
  have key : ∀ v w', PostK j n (vs.getD j undef) (fun v => I (upd L j) (updv σ j v)) v w' → PostV ((vpK n 0 vs).getD j (fun _ _ => True)) (fun v => I (upd L j) (updv σ j v)) (fun w' => KeepAll σ L w w' 0 (vpK n 0 vs)) v w' := fun v w' k =>
    ⟨by rw [vpK_get n vs 0 j (by omega), Nat.zero_add]; exact k.val, k.inv, keepAll_vpK _ _ _⟩
  split
  · next hw => rw [if_pos hw] at this; exact this.mono key
  · next hw => rw [if_neg hw] at this; exact key _ _ this
end
end Go.Proofs.Ytfbcdblgfhekpaa

/- Worlds: Get. (printed by mk_w9.py) -/
namespace Go.Proofs.Ytfbcdblgfhekpaa
open Go Go.RowKit

attribute [local go_sem] AllFrom.cons_eq AllFrom.nil_eq putF_nil putF_cons wantedL_none wantedL_some OpGoalT OpGoalV OpGoalQ OpGoalA OpGoalK YieldsR preF_nil preF_cons

/-- A region that makes one block (operation n) and stores into it (operation m). -/
structure IGet (n m : Nat) (w2 : World) (zs row : Array Value) (T : TypeId) (L : Nat → Bool) (σ : Nat → Value) (V : World) : Prop where
  b : Below w2.heap.size w2 V
  blk : L n = true → ∃ g, σ n = .pointer (some ⟨g, 0, none⟩) ∧ w2.heap.size ≤ g ∧ V.heap[g]? = some (.cells (if L m = true then row else zs) T (0, 0))
section
variable {n m : Nat} {w2 V V' : World} {zs row : Array Value} {T : TypeId} {L : Nat → Bool} {σ : Nat → Value}
theorem IGet.start (h : Below w2.heap.size w2 V) : IGet n m w2 zs row T (fun _ => false) σ V := ⟨h, fun e => by cases e⟩
theorem IGet.read (h : IGet n m w2 zs row T L σ V) {i : Nat} (h1 : i ≠ n) (h2 : i ≠ m) (v : Value) : IGet n m w2 zs row T (upd L i) (updv σ i v) V := by
  have e1 : upd L i n = L n := by unfold upd; simp [Ne.symm h1]
  have e2 : upd L i m = L m := by unfold upd; simp [Ne.symm h2]
  refine ⟨h.b, fun e => ?_⟩
  rw [e1] at e
  rw [e2]
  obtain ⟨g, q1, q2, q3⟩ := h.blk e
  exact ⟨g, by unfold updv; rw [if_neg (Ne.symm h1)]; exact q1, q2, q3⟩
theorem IGet.step (h : IGet n m w2 zs row T L σ V) (hb : Below V.heap.size V V') : IGet n m w2 zs row T L σ V' :=
  ⟨h.b.trans (hb.mono h.b.size), fun e => by obtain ⟨g, q1, q2, q3⟩ := h.blk e; exact ⟨g, q1, q2, (Mod.ofBelow hb).keep q3 (by simp)⟩⟩
end
section
variable {w : World} {p : Nat} {sl : Sl} {L : List Rw} {F : List Nat}

end
end Go.Proofs.Ytfbcdblgfhekpaa

/- Families: the map of the program; New, Parent, Loosen. (printed by mk_fam1.py) -/
namespace Go.Proofs.Ytfbcdblgfhekpaa
open Go Go.RowKit Go.Maps
attribute [local go_sem] AllFrom.cons_eq AllFrom.nil_eq putF_nil putF_cons wantedL_none wantedL_some OpGoalT OpGoalV OpGoalQ OpGoalA OpGoalK YieldsR preF_nil preF_cons

section
variable {w : World} {f : Nat} {B : List Bd} {F : List Nat}
end
end Go.Proofs.Ytfbcdblgfhekpaa
