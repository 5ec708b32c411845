/- A region whose drawn head only reads; loads and stores of whole records in a region; rows of records that are stored whole. -/
import Derived.Test.YtkcpmoinpdojjaaApp
import Derived.Test.YtkcpmoinpdojjaaFlat
import Derived.Deep.MidRow
namespace Go.Proofs.Ytkcpmoinpdojjaa
open Go Go.RowKit

section
variable {P : Program}
def OpGoalQ (P : Program) (dsts : List (Option Tmp)) (pre : List (List Nat)) (vs : List Value) (a : World) (a0 : Act) (i : Nat) (o : Oper) : Prop :=
  ∀ (σ : Nat → Value), PreF (vs.map isV) σ a (pre.getD i []) →
    if wantedL dsts (putF dsts σ (pre.getD i []) a0) o.guard = true then YieldsR P o (putF dsts σ (pre.getD i []) a0).eval a (PostS (vs.getD i undef) a)
    else PostS (vs.getD i undef) a undef a
theorem allFrom_imp {p q : Nat → Oper → Prop} : ∀ (l : List Oper) (k : Nat), (∀ j o, l[j]? = some o → p (k + j) o → q (k + j) o) → AllFrom p k l → AllFrom q k l
  | [], _, _, _ => trivial
  | o :: l, k, h, ⟨h1, h2⟩ => ⟨h 0 o rfl h1, allFrom_imp l (k + 1) (fun j o' hj hp => by
      have := h (j + 1) o' (by simpa using hj)
      rw [show k + (j + 1) = k + 1 + j by omega] at this
      exact this hp) h2⟩
/-- A region that draws its order, whose head only reads. -/
theorem wp_planR {Q : Exit → Act → World → Prop} {id : Nat} {l : List Oper} {a0 : Act} {w0 : World} (m : Nat) (fl : List Nat) (dsts : List (Option Tmp)) (pre : List (List Nat)) (is : List Nat)
    (hm : P.follows .mixedOrders = true) (hd : l.map (·.dst) = dsts) (hc : planOk l.toArray pre = true) (hT : tailOkB l pre m fl = true) (hmn : m ≤ l.length) (his : List.range m = is)
    (h : ExL m fun vs => vs.length = m ∧ AllFrom (OpGoalQ P dsts pre vs w0.drew a0) 0 (l.take m) ∧
      (∀ (σ : Nat → Value), PreF (vs.map isV) σ w0.drew is → wpList P l.toArray (OnlyN Q) (l.drop m) (putF dsts σ is a0) w0.drew)) :
    (Code.region id l.toArray true).wp P Q a0 w0 := by
  obtain ⟨vs, hl, h1, h2⟩ := h.out
  have hgd : ∀ i, i < m → (vs.map isV).getD i (fun _ _ => True) = isV (vs.getD i undef) := fun i hi => by
    rw [List.getD_eq_getElem?_getD, List.getElem?_map, List.getD_eq_getElem?_getD]
    have : i < vs.length := by omega
    rw [List.getElem?_eq_getElem this]; rfl
  refine wp_planF m fl dsts pre is 0 (fun _ => vs.map isV) (fun _ _ V => V = w0.drew) hm hd hc hT hmn rfl his ?_
  show _ ∧ _
  refine ⟨allFrom_imp _ _ (fun j o hj hp => ?_) h1, ?_⟩
  · have hjm : j < m := by
      rcases Nat.lt_or_ge j m with h | h
      · exact h
      · rw [List.getElem?_eq_none (by rw [List.length_take]; omega)] at hj; cases hj
    intro L σ w hL1 hL2 hL3 hI hpre
    subst hI
    have := hp σ hpre
    simp only [Nat.zero_add] at this ⊢
    split
    · next hw =>
      rw [if_pos hw] at this
      refine this.mono ?_
      rintro v w' ⟨hv, hw'⟩
      subst hw'
      exact ⟨by rw [hgd j hjm]; exact hv, rfl, KeepAll.refl⟩
    · next hw =>
      rw [if_neg hw] at this
      exact ⟨by rw [hgd j hjm]; exact this.1, rfl, KeepAll.refl⟩
  · intro L σ w hL hI hpre
    subst hI
    exact h2 σ hpre

theorem yr_load {o : Oper} {ρ : Operand → Value} {w : World} {J : Value → World → Prop} (ty : TypeId) (x : Operand) (ho : o.op = .load ty x) (ad : Addr) (hx : ρ x = .pointer (some ad)) (xs : List Value) (d : TypeDesc)
    (hu : P.underlying ty = some d) (hd : (match d with | .struct _ | .array _ _ => true | _ => false) = true) (hi : (P.info? ty).map (·.size) = some xs.length) (hc : ∀ j u, xs[j]? = some u → w.cell? (ad.add j) = some u)
    (h : J (.agg xs.toArray) w) : YieldsR P o ρ w J := by
  unfold YieldsR
  rw [run_op_load ρ o w ty x ho ad hx xs d hu hd hi hc]
  exact h
/-- A load of a whole record, as a region's operation. -/
theorem oq_load {dsts : List (Option Tmp)} {a b : Act} {vs : List Value} {i : Nat} {o : Oper} {w : World} (ty : TypeId) (x : Operand) (ho : o.op = .load ty x) (hg : o.guard = none) (ad : Addr) (hx : a.eval x = .pointer (some ad)) (xs : List Value) (d : TypeDesc)
    (hu : P.underlying ty = some d) (hd : (match d with | .struct _ | .array _ _ => true | _ => false) = true) (hi : (P.info? ty).map (·.size) = some xs.length) (hc : ∀ j u, xs[j]? = some u → w.cell? (ad.add j) = some u)
    (hv : Value.agg xs.toArray = vs.getD i undef) :
    if wantedL dsts b o.guard = true then YieldsR P o a.eval w (PostS (vs.getD i undef) w) else PostS (vs.getD i undef) w undef w := by
  rw [hg, wantedL_none, if_pos rfl]
  exact yr_load ty x ho ad hx xs d hu hd hi hc ⟨hv, rfl⟩
end

/-- A store of a whole record. -/
theorem wpList_store_at {P : Program} {ops : Array Oper} {rest : List Oper} {op : Oper} {a : Act} {w : World} {Q : Exit → Act → World → Prop} (hgd : op.guard = none) (ty : TypeId) (x y : Operand) (ho : op.op = .store ty x y)
    (b o : Nat) (vs : List Value) (hx : a.eval x = .pointer (some ⟨b, o, none⟩)) (hy : a.eval y = .agg vs.toArray) (ht : w.there b o vs.length) (hi : (P.info? ty).map (·.size) = some vs.length) (h1 : ∀ u ∈ vs, u.oneCell' = true)
    (h : wpList P ops Q rest (a.put op.dst undef) (w.setCells b o vs)) : wpList P ops Q (op :: rest) a w := by
  refine wpList_store_mid hgd ty x y ho b o vs.toArray hx hy (by simpa using ht) (by simpa using hi) (all_oneCell_toArray h1) ?_
  rw [show vs.toArray.toList = vs by simp]
  exact h

/-! What is stored whole into a row. -/
def setL : List Value → Nat → List Value → List Value
  | xs, _, [] => xs
  | xs, i, v :: vs => setL (xs.set i v) (i + 1) vs
theorem setL_length : ∀ (vs xs : List Value) (i : Nat), (setL xs i vs).length = xs.length
  | [], _, _ => rfl
  | v :: vs, xs, i => by rw [setL, setL_length vs]; simp
theorem setL_mid : ∀ (vs xs ys zs : List Value) (i : Nat), i + vs.length ≤ ys.length → setL (xs ++ ys ++ zs) (xs.length + i) vs = xs ++ setL ys i vs ++ zs
  | [], _, _, _, _, _ => rfl
  | v :: vs, xs, ys, zs, i, h => by
    simp only [List.length_cons] at h
    rw [setL, setL, List.append_assoc, List.set_append_right _ _ (by omega), show xs.length + i - xs.length = i by omega, List.set_append_left _ _ (by omega), ← List.append_assoc,
      show xs.length + i + 1 = xs.length + (i + 1) by omega, setL_mid vs xs (ys.set i v) zs (i + 1) (by simp; omega)]
theorem setL_all : ∀ (vs ys : List Value), vs.length = ys.length → setL ys 0 vs = vs := by
  have key : ∀ (vs ys zs : List Value), vs.length = zs.length → setL (ys ++ zs) ys.length vs = ys ++ vs := by
    intro vs
    induction vs with
    | nil => intro ys zs h; have : zs = [] := List.eq_nil_of_length_eq_zero (by simpa using h.symm); subst this; rfl
    | cons v vs ih =>
      intro ys zs h
      match zs, h with
      | z :: zs, h =>
        rw [setL, List.set_append_right _ _ (Nat.le_refl _), Nat.sub_self, List.set_cons_zero]
        have := ih (ys ++ [v]) zs (by simpa using h)
        simpa using this
  intro vs ys h
  simpa using key vs [] ys h
theorem flat_split {α : Type} {enc : α → List Value} {n : Nat} (hf : ∀ x, (enc x).length = n) (l : List α) (k : Nat) (hk : k < l.length) (y : α) :
    (l.set k y).flatMap enc = (l.take k).flatMap enc ++ enc y ++ (l.drop (k + 1)).flatMap enc ∧ ((l.take k).flatMap enc).length = k * n := by
  refine ⟨?_, by rw [flatV_length hf, List.length_take]; congr 1; omega⟩
  rw [List.set_eq_take_append_cons_drop, if_pos hk]
  simp
/-- A piece of record k of a row is stored. -/
theorem setL_flat {α : Type} {enc : α → List Value} {n : Nat} (hf : ∀ x, (enc x).length = n) (l : List α) (k : Nat) (hk : k < l.length) (o : Nat) (vs : List Value) (y : α) (ho : o + vs.length ≤ n) (he : setL (enc l[k]) o vs = enc y) :
    setL (l.flatMap enc) (k * n + o) vs = (l.set k y).flatMap enc := by
  obtain ⟨h1, h2⟩ := flat_split hf l k hk y
  obtain ⟨h3, -⟩ := flat_split hf l k hk l[k]
  rw [List.set_getElem_self] at h3
  rw [h1, h3, ← h2, setL_mid _ _ _ _ _ (by rw [hf]; exact ho), he]
theorem row_setCells {w : World} {B e size n g cap : Nat} : ∀ (vs : List Value) (i : Nat) (w : World) (xs : List Value), w.ownsRow B e size (.slice (some ⟨g, 0, none⟩) n cap) n xs → (w.setCells g i vs).ownsRow B e size (.slice (some ⟨g, 0, none⟩) n cap) n (setL xs i vs)
  | [], _, _, _, h => h
  | v :: vs, i, w, xs, h => row_setCells (w := w) vs (i + 1) _ _ (row_set h i v)
theorem mod_setCells {F : List Nat} {a : World} {g : Nat} (hg : g ∈ F ∨ a.heap.size ≤ g) : ∀ (vs : List Value) (i : Nat) (w : World), Mod F a w → Mod F a (w.setCells g i vs)
  | [], _, _, h => h
  | v :: vs, i, _, h => mod_setCells hg vs (i + 1) _ (h.setCell hg v)
theorem size_setCells_ (g : Nat) : ∀ (vs : List Value) (i : Nat) (w : World), (w.setCells g i vs).heap.size = w.heap.size
  | [], _, _ => rfl
  | v :: vs, i, w => by rw [World.setCells, size_setCells_ g vs]; simp [World.setCell]
theorem row_there {w : World} {B e size n g cap : Nat} {xs : List Value} (h : w.ownsRow B e size (.slice (some ⟨g, 0, none⟩) n cap) n xs) {i m : Nat} (hm : i + m ≤ xs.length) : w.there g i m := fun j hj => by
  have h1 : xs[i + j]? = some (xs[i + j]'(by omega)) := List.getElem?_eq_getElem (by omega)
  exact ⟨by rw [row_cell h h1]; rfl, row_free h _⟩
/-- A piece of a record of a row, as a load wants it. -/
theorem row_piece {α : Type} {enc : α → List Value} {n : Nat} (hf : ∀ x, (enc x).length = n) {w : World} {B e cap g : Nat} {l : List α} (h : w.ownsRow B e n (.slice (some ⟨g, 0, none⟩) l.length cap) l.length (l.flatMap enc)) {k : Nat} (hk : k < l.length) (o : Nat) (xs : List Value) (ho : ∀ j u, xs[j]? = some u → (enc l[k])[o + j]? = some u) :
    ∀ j u, xs[j]? = some u → w.cell? ((⟨g, k * n + o, none⟩ : Addr).add j) = some u := by
  intro j u hu
  obtain ⟨g', cap', he, hc⟩ := row_rec hf h hk
  simp only [Value.slice.injEq, Option.some.injEq, Addr.mk.injEq, and_true, true_and] at he
  obtain ⟨rfl, rfl⟩ := he
  have := hc (o + j) u (ho j u hu)
  have e : (⟨g, k * n + o, none⟩ : Addr).add j = ⟨g, k * n + (o + j), none⟩ := by
    unfold Addr.add
    split
    · next h0 => simp only [Addr.mk.injEq, true_and, and_true]; omega
    · simp only [Addr.mk.injEq, true_and, and_true]; omega
  rw [e]; exact this
end Go.Proofs.Ytkcpmoinpdojjaa
