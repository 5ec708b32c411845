import Derived.Test.YtfbcdblgfhekpaaDiffAppliesJ2
import Derived.Test.YtfbcdblgfhekpaaDiffAppliesJ3
import Derived.Test.YtfbcdblgfhekpaaDiffAppliesJ4
import Derived.Deep.QuietTactic
import Derived.BigQuiet
/- Structs of integers in memory: loads of a whole struct; lists of structs laid flat. -/
namespace Go.Proofs.Ytfbcdblgfhekpaa
open Go Go.RowKit

section
variable {P : Program}
theorem run_load_flat (w : World) (ty : TypeId) (ad : Addr) (xs : List Value) (d : TypeDesc) (hu : P.underlying ty = some d) (hd : (match d with | .struct _ | .array _ _ => true | _ => false) = true)
    (hi : (P.info? ty).map (·.size) = some xs.length) (hc : ∀ j u, xs[j]? = some u → w.cell? (ad.add j) = some u) : (loadVar ty ad).run P w = .ok (.agg xs.toArray) w := by
  have hl : (loadCells ad xs.length).run P w = .ok xs.toArray w := run_loadCells_list (P := P) w ad xs hc
  cases hq : P.info? ty with
  | none => simp [hq] at hi
  | some i =>
    have hs : i.size = xs.length := by simpa [hq] using hi
    have hagg : (isAgg ty).run P w = .ok true w := by
      unfold isAgg
      rw [Sem.run_bind, run_underlying hu w]
      cases d <;> simp_all
    simp [loadVar, Sem.run_bind, hagg, sizeOf, typeInfo, hq, hs, hl]

theorem run_op_load (ρ : Operand → Value) (o : Oper) (w : World) (ty : TypeId) (x : Operand) (ho : o.op = .load ty x) (ad : Addr) (hx : ρ x = .pointer (some ad)) (xs : List Value) (d : TypeDesc) (hu : P.underlying ty = some d)
    (hd : (match d with | .struct _ | .array _ _ => true | _ => false) = true) (hi : (P.info? ty).map (·.size) = some xs.length) (hc : ∀ j u, xs[j]? = some u → w.cell? (ad.add j) = some u) :
    (execOp ρ o).run P w = .ok (.value (.agg xs.toArray)) w := by
  unfold execOp
  simp only [ho, hx, Instr.loadAt, Instr.sureAddr, Sem.run_bind, Sem.run_pure, Result.andThen_ok, run_load_flat w ty ad xs d hu hd hi hc]

theorem wpList_load_flat {ops : Array Oper} {rest : List Oper} {o : Oper} {a : Act} {w : World} {Q : Exit → Act → World → Prop} (hgd : o.guard = none) (ty : TypeId) (x : Operand) (ho : o.op = .load ty x)
    (ad : Addr) (hx : a.eval x = .pointer (some ad)) (xs : List Value) (d : TypeDesc) (hu : P.underlying ty = some d) (hd : (match d with | .struct _ | .array _ _ => true | _ => false) = true)
    (hi : (P.info? ty).map (·.size) = some xs.length) (hc : ∀ j u, xs[j]? = some u → w.cell? (ad.add j) = some u)
    (h : wpList P ops Q rest (a.put o.dst (.agg xs.toArray)) w) : wpList P ops Q (o :: rest) a w :=
  wpList_plain hgd fun K hK => by
    unfold Oper.wp
    rw [run_op_load a.eval o w ty x ho ad hx xs d hu hd hi hc, Oper.upon_value]
    exact hK _ _ h
end

theorem flat_get {α : Type} (f : α → List Int) (n : Nat) (hf : ∀ x, (f x).length = n) : ∀ (l : List α) (k : Nat) (hk : k < l.length) (j : Nat), j < n → (l.flatMap f)[k * n + j]? = (f l[k])[j]?
  | x :: l, 0, _, j, hj => by
    simp only [List.flatMap_cons, Nat.zero_mul, Nat.zero_add, List.getElem_cons_zero]
    rw [List.getElem?_append_left (by rw [hf]; exact hj)]
  | x :: l, k + 1, hk, j, hj => by
    simp only [List.flatMap_cons, List.getElem_cons_succ]
    rw [List.getElem?_append_right (by rw [hf, Nat.succ_mul]; omega), hf, show (k + 1) * n + j - n = k * n + j by rw [Nat.succ_mul]; omega]
    exact flat_get f n hf l k (by simpa using hk) j hj
theorem unflat {α : Type} (f : α → List Int) (k : Nat) (mk : ∀ zs : List Int, zs.length = k → ∃ x, f x = zs) : ∀ (n : Nat) (zs : List Int), zs.length = n * k → ∃ l : List α, l.length = n ∧ zs = l.flatMap f
  | 0, zs, h => ⟨[], rfl, List.eq_nil_of_length_eq_zero (by simpa using h)⟩
  | n + 1, zs, h => by
    rw [Nat.succ_mul] at h
    obtain ⟨x, hx⟩ := mk (zs.take k) (by rw [List.length_take]; omega)
    obtain ⟨l, hl, hz⟩ := unflat f k mk n (zs.drop k) (by rw [List.length_drop]; omega)
    exact ⟨x :: l, by simp [hl], by rw [List.flatMap_cons, hx, ← hz, List.take_append_drop]⟩

/-- One record of a list that lies flat. -/
theorem Lies.elem {α : Type} {f : α → List Int} {n : Nat} {w : World} {B : Nat} {A : Option Addr} {l : List α} (h : Lies w B A (ints (l.flatMap f))) (hf : ∀ x, (f x).length = n) (hn : 0 < n) {k : Nat} (hk : k < l.length) :
    ∃ a, A = some a ∧ a.block < B ∧ ∀ j u, (ints (f l[k]))[j]? = some u → w.cell? ((a.add (k * n)).add j) = some u := by
  have hget : ∀ j, j < n → ∃ u, (ints (l.flatMap f))[k * n + j]? = some u ∧ (ints (f l[k]))[j]? = some u := by
    intro j hj
    have h1 := flat_get f n hf l k hk j hj
    have h2 : (f l[k])[j]? = some ((f l[k])[j]'(by rw [hf]; exact hj)) := List.getElem?_eq_getElem _
    refine ⟨.int .i64 ((f l[k])[j]'(by rw [hf]; exact hj)), ?_, ?_⟩
    · rw [ints, List.getElem?_map, h1, h2]; rfl
    · rw [ints, List.getElem?_map, h2]; rfl
  obtain ⟨u0, h0, _⟩ := hget 0 hn
  obtain ⟨a, rfl, hb, _⟩ := h _ u0 h0
  refine ⟨a, rfl, hb, fun j u hu => ?_⟩
  have hj : j < n := by
    rcases Nat.lt_or_ge j n with h | h
    · exact h
    · rw [List.getElem?_eq_none (by rw [ints_length, hf]; exact h)] at hu; cases hu
  obtain ⟨u', h1, h2⟩ := hget j hj
  rw [h2] at hu
  cases hu
  obtain ⟨a', e, _, hc⟩ := h _ _ h1
  cases e
  rw [add_add_]
  exact hc
end Go.Proofs.Ytfbcdblgfhekpaa

/- What Live, All and Gens return, at the program's slots and at the reference's. -/
namespace Go.Proofs.Ytfbcdblgfhekpaa
open Go.RowKit

def handleC (h : Int × Int) : List Value := [.int .i64 h.1, .int .i64 h.2]
theorem handleC_len (x : Int × Int) : (handleC x).length = 2 := rfl
theorem handleC_one (x : Int × Int) : ∀ u ∈ handleC x, u.oneCell' = true := by intro u hu; simp [handleC] at hu; rcases hu with rfl | rfl <;> rfl
theorem info_handle : (Try.prog.info? 28).map (fun i => (i.zero, i.size, i.bytes)) = some (some (.agg #[.int .i64 0, .int .i64 0]), 2, 16) := by kernel_rfl
/-- The cells of a record laid in a new block. -/
theorem new_rec {w : World} {n : Nat} {cs : Array Value} {t : TypeId} {xs : List Value} (hn : n = w.heap.size) (h : cs.toList = xs) : ∀ j u, xs[j]? = some u → (w.alloc (.cells cs t)).cell? ((⟨n, 0, none⟩ : Addr).add j) = some u := by
  intro j u hu
  subst h; subst hn
  have e : (⟨w.heap.size, 0, none⟩ : Addr).add j = ⟨w.heap.size, j, none⟩ := by unfold Addr.add; split <;> simp_all
  rw [e]
  simpa using hu

end Go.Proofs.Ytfbcdblgfhekpaa

/- The reference's slots: All, Is. -/
namespace Go.Proofs.Ytfbcdblgfhekpaa
open Go.RowKit

attribute [local go_sem] AllFrom.cons_eq AllFrom.nil_eq putF_nil putF_cons wantedL_none wantedL_some OpGoalT YieldsR preF_nil preF_cons

end Go.Proofs.Ytfbcdblgfhekpaa

/- The program's slots: New, Take, Free. -/
namespace Go.Proofs.Ytfbcdblgfhekpaa
open Go.RowKit

attribute [local go_sem] AllFrom.cons_eq AllFrom.nil_eq putF_nil putF_cons wantedL_none wantedL_some OpGoalT OpGoalS YieldsR preF_nil preF_cons

/-- What a call that turns the slots l into l' leaves. -/
structure Turns (w : World) (F : List Nat) (F' : List Nat) (w' : World) : Prop where
  mod : Mod F w w'
  new : ∀ k ∈ F', k ∈ F ∨ w.heap.size ≤ k

end Go.Proofs.Ytfbcdblgfhekpaa

/- The contract of Eq at lists of handles. -/
namespace Go.Proofs.Ytfbcdblgfhekpaa
open Go.RowKit

/-- One record of a list that lies flat, by block and offset. -/
theorem Lies.rec_at {α : Type} {enc : α → List Value} {n : Nat} {w : World} {B : Nat} {A : Option Addr} {l : List α} (h : Lies w B A (l.flatMap enc)) (hf : ∀ x, (enc x).length = n) (hn : 0 < n) {k : Nat} (hk : k < l.length) :
    ∃ b o, A = some ⟨b, o, none⟩ ∧ b < B ∧ ∀ j u, (enc l[k])[j]? = some u → w.cell? ⟨b, o + k * n + j, none⟩ = some u := by
  obtain ⟨a, rfl, hb, hc⟩ := h.rec_ hf hn hk
  obtain ⟨a0, e, -, h0⟩ := h 0 ((l.flatMap enc)[0]'(by rw [flatV_length hf]; exact Nat.mul_pos (by omega) hn)) (List.getElem?_eq_getElem _)
  cases e
  obtain ⟨b, o, s⟩ := a
  have hs : s = none := by
    cases s with
    | none => rfl
    | some x =>
      rw [add_zero] at h0
      simp only [World.cell?] at h0
      split at h0
      · simp at h0
      · cases h0
  subst hs
  refine ⟨b, o, rfl, hb, fun j u hu => ?_⟩
  have := hc j u hu
  rw [add_add_] at this
  have e : (⟨b, o, none⟩ : Addr).add (k * n + j) = ⟨b, o + k * n + j, none⟩ := by
    unfold Addr.add
    split
    · next h0 => simp only [Addr.mk.injEq, true_and, and_true]; omega
    · simp only [Addr.mk.injEq, true_and, and_true]; omega
  rw [e] at this
  exact this

attribute [local go_sem] AllFrom.cons_eq AllFrom.nil_eq putF_nil putF_cons wantedL_none wantedL_some OpGoalT OpGoalS YieldsR preF_nil preF_cons

end Go.Proofs.Ytfbcdblgfhekpaa
