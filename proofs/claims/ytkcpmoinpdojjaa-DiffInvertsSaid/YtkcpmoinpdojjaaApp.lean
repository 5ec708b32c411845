/- append, make and the like inside a region that draws its order, and behind one. -/
import Derived.Test.YtkcpmoinpdojjaaRegF
import Derived.Test.YtkcpmoinpdojjaaMod
namespace Go.Proofs.Ytkcpmoinpdojjaa
open Go Go.RowKit

/-- A slice of one new cell. -/
def oneV (S : Nat) (y : Value) (t : TypeId) : Value → World → Prop := fun v w => ∃ b, v = .slice (some ⟨b, 0, none⟩) 1 1 ∧ S ≤ b ∧ w.heap[b]? = some (.cells #[y] t (0, 0))
/-- A slice of one new record. -/
def oneR (S : Nat) (ys : Array Value) (t : TypeId) : Value → World → Prop := fun v w => ∃ b, v = .slice (some ⟨b, 0, none⟩) 1 1 ∧ S ≤ b ∧ w.heap[b]? = some (.cells ys t (0, 0))
theorem stab_oneR {S : Nat} {ys : Array Value} {t : TypeId} : Stab Grow (oneR S ys t) := by
  rintro v w w' hb ⟨b, h1, h2, h3⟩
  exact ⟨b, h1, h2, (Mod.ofBelow hb).keep h3 (by simp)⟩
theorem oneR_mod {S : Nat} {ys : Array Value} {t : TypeId} {F : List Nat} {v : Value} {w w' : World} (h : oneR S ys t v w) (hm : Mod F w w') (hF : ∀ k ∈ F, k < S) : oneR S ys t v w' := by
  obtain ⟨b, h1, h2, h3⟩ := h
  exact ⟨b, h1, h2, hm.keep h3 (fun hk => by have := hF b hk; omega)⟩
theorem oneR_new {S : Nat} {ys : Array Value} {t : TypeId} {w : World} (h : S ≤ w.heap.size) : oneR S ys t (.slice (some ⟨w.heap.size, 0, none⟩) 1 1) (w.alloc (.cells ys t)) := ⟨_, rfl, h, heap_alloc_new w _⟩
theorem oneR_cells {S : Nat} {ys : Array Value} {t : TypeId} {v : Value} {w : World} {xs : List Value} (h : oneR S ys t v w) (he : ys.toList = xs) : ∃ ad, v = .slice (some ad) 1 1 ∧ ∀ j u, xs[j]? = some u → w.cell? (ad.add j) = some u := by
  obtain ⟨b, rfl, -, hb⟩ := h
  refine ⟨_, rfl, fun j u hu => ?_⟩
  subst he
  have e : (⟨b, 0, none⟩ : Addr).add j = ⟨b, j, none⟩ := by unfold Addr.add; split <;> simp_all
  rw [e, blk_cell hb]
  simpa using hu

section
variable {P : Program} {α : Type} {enc : α → List Value} {n : Nat}
/-- append of one record, in a region. -/
theorem yr_app {o : Oper} {ρ : Operand → Value} {w : World} {J : Value → World → Prop} (s x : Operand) (T E : TypeId)
    (ho : o.op = .call { callee := .builtin .append, args := #[s, x], argTypes := #[T, T] }) (ht : P.underlying T = some (.slice E)) {z : Value} {bytes : Nat}
    (hinf : (P.info? E).map (fun i => (i.zero, i.size, i.bytes)) = some (some z, n, bytes)) (hzs : z.cells.size = n) (hn : 0 < n) (hby : 0 < bytes) (hone : ∀ x, ∀ u ∈ enc x, u.oneCell' = true) (hf : ∀ x, (enc x).length = n)
    (base : Nat) (v : Value) (l : List α) (y : α) (S : Nat) (ys : Array Value) (t : TypeId) (hs : ρ s = v) (hown : w.ownsRow base E n v l.length (l.flatMap enc)) (hx : oneR S ys t (ρ x) w) (hys : ys.toList = enc y)
    (hlen : (l.length + 1) * bytes ≤ 140737488355328) (hbase : base ≤ w.heap.size)
    (h : ∀ v' w', w'.ownsRow base E n v' (l ++ [y]).length ((l ++ [y]).flatMap enc) → w.grownBy w' v.ownBlock → (v'.ownBlock = v.ownBlock ∨ v'.ownBlock = some w.heap.size) → J v' w') : YieldsR P o ρ w J := by
  obtain ⟨i0, hi, hz0, hz1, hz2⟩ := info_parts hinf
  have h1 : l.length + 1 ≤ (l.length + 1) * bytes := Nat.le_mul_of_pos_right _ hby
  obtain ⟨ad, hxe, hc⟩ := oneR_cells hx hys
  obtain ⟨v', w', hr, h2, h3, h4, h5⟩ := run_append_own_at (P := P) w base T o.type E i0 z n bytes ht hi hz0 hz1 hz2 hzs hn v l.length _ hown ad 1 1 (enc y) (by rw [hf, Nat.one_mul]) hc (hone y) (by unfold maxLen; omega) hlen hbase
  unfold YieldsR execOp
  simp only [ho, resolve, invoke, builtin, Sem.run_bind, Sem.run_pure, Result.andThen_ok, List.map_toArray, List.map_cons, List.map_nil, hs, hxe, hr]
  refine h v' w' ?_ h3 h5
  rw [List.length_append, List.flatMap_append]
  simpa using h2
/-- The same, behind a region. -/
theorem app_oneR {w : World} {ops : Array Oper} {rest : List Oper} {o : Oper} {a : Act} {Q : Exit → Act → World → Prop} (hgd : o.guard = none) (s x : Operand) (T E : TypeId)
    (ho : o.op = .call { callee := .builtin .append, args := #[s, x], argTypes := #[T, T] }) (ht : P.underlying T = some (.slice E)) {z : Value} {bytes : Nat}
    (hinf : (P.info? E).map (fun i => (i.zero, i.size, i.bytes)) = some (some z, n, bytes)) (hzs : z.cells.size = n) (hn : 0 < n) (hby : 0 < bytes) (hone : ∀ x, ∀ u ∈ enc x, u.oneCell' = true) (hf : ∀ x, (enc x).length = n)
    (base : Nat) (v : Value) (l : List α) (y : α) (S : Nat) (ys : Array Value) (t : TypeId) (hs : a.eval s = v) (hown : w.ownsRow base E n v l.length (l.flatMap enc)) (hx : oneR S ys t (a.eval x) w) (hys : ys.toList = enc y)
    (hlen : (l.length + 1) * bytes ≤ 140737488355328) (hbase : base ≤ w.heap.size)
    (h : ∀ v' w', w'.ownsRow base E n v' (l ++ [y]).length ((l ++ [y]).flatMap enc) → w.grownBy w' v.ownBlock → (v'.ownBlock = v.ownBlock ∨ v'.ownBlock = some w.heap.size) → wpList P ops Q rest (a.put o.dst v') w') : wpList P ops Q (o :: rest) a w := by
  obtain ⟨ad, hxe, hc⟩ := oneR_cells hx hys
  exact app_rec hgd s x T E ho ht hinf hzs hn hby hone hf base v l y ad 1 hs hown hxe hc hlen hbase h
end
theorem grown_mod {w w' : World} {r : Option Nat} (h : w.grownBy w' r) : Mod r.toList w w' := (Mod.refl _ w).grown h (fun k hk => .inl (by simp [hk]))
theorem keep_of {σ : Nat → Value} {L : Nat → Bool} {w w' : World} {p : Value → World → Prop} {l : List (Value → World → Prop)} {k : Nat} (hp : L k = true → p (σ k) w → p (σ k) w') (h : KeepAll σ L w w' (k + 1) l) : KeepAll σ L w w' k (p :: l) := ⟨hp, h⟩
theorem keep_not {σ : Nat → Value} {L : Nat → Bool} {w w' : World} {p : Value → World → Prop} {l : List (Value → World → Prop)} {k : Nat} (hk : L k = false) (h : KeepAll σ L w w' (k + 1) l) : KeepAll σ L w w' k (p :: l) := ⟨fun h => absurd h (by rw [hk]; exact Bool.false_ne_true), h⟩
theorem keep_nil {σ : Nat → Value} {L : Nat → Bool} {w w' : World} {k : Nat} : KeepAll σ L w w' k [] := trivial
theorem allStab_oneR {S : Nat} {ys : Array Value} {t : TypeId} {l : List (Value → World → Prop)} (h : AllStab Grow l) : AllStab Grow (oneR S ys t :: l) := ⟨stab_oneR, h⟩
/-- A row that has grown: it lies where it lay, or in a block from S on. -/
def appV (E k n : Nat) (xs : List Value) (g : Option Nat) (S : Nat) : Value → World → Prop := fun v w => w.ownsRow 0 E k v n xs ∧ (v.ownBlock = g ∨ ∃ b, v.ownBlock = some b ∧ S ≤ b)
theorem stab_appV {E k n : Nat} {xs : List Value} {g : Option Nat} {S : Nat} : Stab Grow (appV E k n xs g S) := fun v w w' hb h => ⟨stab_rowV (B := 0) v w w' hb h.1, h.2⟩
theorem allStab_appV {E k n : Nat} {xs : List Value} {g : Option Nat} {S : Nat} {l : List (Value → World → Prop)} (h : AllStab Grow l) : AllStab Grow (appV E k n xs g S :: l) := ⟨stab_appV, h⟩
theorem upd_false {L : Nat → Bool} {i j : Nat} (h : upd L i j = false) : L j = false := by simp only [upd, Bool.or_eq_false_iff] at h; exact h.2
theorem grow_alloc (w : World) (o : Obj) : Grow w (w.alloc o) := (Below.refl _ _).alloc (Nat.le_refl _) o
theorem upd_true {L : Nat → Bool} {i j : Nat} (h : upd L i j = true) (hne : j ≠ i) : L j = true := by simp only [upd, Bool.or_eq_true, beq_iff_eq] at h; exact h.resolve_left hne
end Go.Proofs.Ytkcpmoinpdojjaa
