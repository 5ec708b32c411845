import Derived.Test.YtehjfmjibiafdaaGreatZooTellsJ9
import Derived.Test.YtehjfmjibiafdaaGreatZooTellsJ4
import Derived.Test.YtehjfmjibiafdaaGreatZooTellsJ7
import Derived.Deep.MidRow
import Derived.Test.YtehjfmjibiafdaaGreatZooTellsJ8
/- append, make and the like inside a region that draws its order, and behind one. -/
namespace Go.Proofs.YtehjfmjibiafdaaGreat
open Go Go.RowKit

/-- A slice of one new record. -/
def oneR (S : Nat) (ys : Array Value) (t : TypeId) : Value → World → Prop := fun v w => ∃ b, v = .slice (some ⟨b, 0, none⟩) 1 1 ∧ S ≤ b ∧ w.heap[b]? = some (.cells ys t (0, 0))
theorem stab_oneR {S : Nat} {ys : Array Value} {t : TypeId} : Stab Grow (oneR S ys t) := by
  rintro v w w' hb ⟨b, h1, h2, h3⟩
  exact ⟨b, h1, h2, (Mod.ofBelow hb).keep h3 (by simp)⟩
theorem oneR_mod {S : Nat} {ys : Array Value} {t : TypeId} {F : List Nat} {v : Value} {w w' : World} (h : oneR S ys t v w) (hm : Mod F w w') (hF : ∀ k ∈ F, k < S) : oneR S ys t v w' := by
  obtain ⟨b, h1, h2, h3⟩ := h
  exact ⟨b, h1, h2, hm.keep h3 (fun hk => by have := hF b hk; omega)⟩
theorem oneR_new {S : Nat} {ys : Array Value} {t : TypeId} {w : World} (h : S ≤ w.heap.size) : oneR S ys t (.slice (some ⟨w.heap.size, 0, none⟩) 1 1) (w.alloc (.cells ys t)) := ⟨_, rfl, h, heap_alloc_new w _⟩
theorem oneR_cells {S : Nat} {ys : Array Value} {t : TypeId} {v : Value} {w : World} {xs : List Value} (h : oneR S ys t v w) (he : ys.toList = xs) : ∃ ad, v = .slice (some ad) 1 1 ∧ ∀ j u, xs[j]? = some u → w.cell? (ad.add j) = some u := by
  obtain ⟨b, rfl, -, hb⟩ := h
  refine ⟨_, rfl, fun j u hu => ?_⟩
  subst he
  have e : (⟨b, 0, none⟩ : Addr).add j = ⟨b, j, none⟩ := by unfold Addr.add; split <;> simp_all
  rw [e, blk_cell hb]
  simpa using hu

section
variable {P : Program} {α : Type} {enc : α → List Value} {n : Nat}
/-- append of one record, in a region. -/
theorem yr_app {o : Oper} {ρ : Operand → Value} {w : World} {J : Value → World → Prop} (s x : Operand) (T E : TypeId)
    (ho : o.op = .call { callee := .builtin .append, args := #[s, x], argTypes := #[T, T] }) (ht : P.underlying T = some (.slice E)) {z : Value} {bytes : Nat}
    (hinf : (P.info? E).map (fun i => (i.zero, i.size, i.bytes)) = some (some z, n, bytes)) (hzs : z.cells.size = n) (hn : 0 < n) (hby : 0 < bytes) (hone : ∀ x, ∀ u ∈ enc x, u.oneCell' = true) (hf : ∀ x, (enc x).length = n)
    (base : Nat) (v : Value) (l : List α) (y : α) (S : Nat) (ys : Array Value) (t : TypeId) (hs : ρ s = v) (hown : w.ownsRow base E n v l.length (l.flatMap enc)) (hx : oneR S ys t (ρ x) w) (hys : ys.toList = enc y)
    (hlen : (l.length + 1) * bytes ≤ 140737488355328) (hbase : base ≤ w.heap.size)
    (h : ∀ v' w', w'.ownsRow base E n v' (l ++ [y]).length ((l ++ [y]).flatMap enc) → w.grownBy w' v.ownBlock → (v'.ownBlock = v.ownBlock ∨ v'.ownBlock = some w.heap.size) → J v' w') : YieldsR P o ρ w J := by
  obtain ⟨i0, hi, hz0, hz1, hz2⟩ := info_parts hinf
  have h1 : l.length + 1 ≤ (l.length + 1) * bytes := Nat.le_mul_of_pos_right _ hby
  obtain ⟨ad, hxe, hc⟩ := oneR_cells hx hys
  obtain ⟨v', w', hr, h2, h3, h4, h5⟩ := run_append_own_at (P := P) w base T o.type E i0 z n bytes ht hi hz0 hz1 hz2 hzs hn v l.length _ hown ad 1 1 (enc y) (by rw [hf, Nat.one_mul]) hc (hone y) (by unfold maxLen; omega) hlen hbase
  unfold YieldsR execOp
  simp only [ho, resolve, invoke, builtin, Sem.run_bind, Sem.run_pure, Result.andThen_ok, List.map_toArray, List.map_cons, List.map_nil, hs, hxe, hr]
  refine h v' w' ?_ h3 h5
  rw [List.length_append, List.flatMap_append]
  simpa using h2
/-- The same, behind a region. -/
theorem app_oneR {w : World} {ops : Array Oper} {rest : List Oper} {o : Oper} {a : Act} {Q : Exit → Act → World → Prop} (hgd : o.guard = none) (s x : Operand) (T E : TypeId)
    (ho : o.op = .call { callee := .builtin .append, args := #[s, x], argTypes := #[T, T] }) (ht : P.underlying T = some (.slice E)) {z : Value} {bytes : Nat}
    (hinf : (P.info? E).map (fun i => (i.zero, i.size, i.bytes)) = some (some z, n, bytes)) (hzs : z.cells.size = n) (hn : 0 < n) (hby : 0 < bytes) (hone : ∀ x, ∀ u ∈ enc x, u.oneCell' = true) (hf : ∀ x, (enc x).length = n)
    (base : Nat) (v : Value) (l : List α) (y : α) (S : Nat) (ys : Array Value) (t : TypeId) (hs : a.eval s = v) (hown : w.ownsRow base E n v l.length (l.flatMap enc)) (hx : oneR S ys t (a.eval x) w) (hys : ys.toList = enc y)
    (hlen : (l.length + 1) * bytes ≤ 140737488355328) (hbase : base ≤ w.heap.size)
    (h : ∀ v' w', w'.ownsRow base E n v' (l ++ [y]).length ((l ++ [y]).flatMap enc) → w.grownBy w' v.ownBlock → (v'.ownBlock = v.ownBlock ∨ v'.ownBlock = some w.heap.size) → wpList P ops Q rest (a.put o.dst v') w') : wpList P ops Q (o :: rest) a w := by
  obtain ⟨ad, hxe, hc⟩ := oneR_cells hx hys
  exact app_rec hgd s x T E ho ht hinf hzs hn hby hone hf base v l y ad 1 hs hown hxe hc hlen hbase h
end
theorem grown_mod {w w' : World} {r : Option Nat} (h : w.grownBy w' r) : Mod r.toList w w' := (Mod.refl _ w).grown h (fun k hk => .inl (by simp [hk]))
theorem keep_of {σ : Nat → Value} {L : Nat → Bool} {w w' : World} {p : Value → World → Prop} {l : List (Value → World → Prop)} {k : Nat} (hp : L k = true → p (σ k) w → p (σ k) w') (h : KeepAll σ L w w' (k + 1) l) : KeepAll σ L w w' k (p :: l) := ⟨hp, h⟩
theorem keep_not {σ : Nat → Value} {L : Nat → Bool} {w w' : World} {p : Value → World → Prop} {l : List (Value → World → Prop)} {k : Nat} (hk : L k = false) (h : KeepAll σ L w w' (k + 1) l) : KeepAll σ L w w' k (p :: l) := ⟨fun h => absurd h (by rw [hk]; exact Bool.false_ne_true), h⟩
theorem keep_nil {σ : Nat → Value} {L : Nat → Bool} {w w' : World} {k : Nat} : KeepAll σ L w w' k [] := trivial
theorem allStab_oneR {S : Nat} {ys : Array Value} {t : TypeId} {l : List (Value → World → Prop)} (h : AllStab Grow l) : AllStab Grow (oneR S ys t :: l) := ⟨stab_oneR, h⟩
/-- A row that has grown: it lies where it lay, or in a block from S on. -/
def appV (E k n : Nat) (xs : List Value) (g : Option Nat) (S : Nat) : Value → World → Prop := fun v w => w.ownsRow 0 E k v n xs ∧ (v.ownBlock = g ∨ ∃ b, v.ownBlock = some b ∧ S ≤ b)
theorem stab_appV {E k n : Nat} {xs : List Value} {g : Option Nat} {S : Nat} : Stab Grow (appV E k n xs g S) := fun v w w' hb h => ⟨stab_rowV (B := 0) v w w' hb h.1, h.2⟩
theorem allStab_appV {E k n : Nat} {xs : List Value} {g : Option Nat} {S : Nat} {l : List (Value → World → Prop)} (h : AllStab Grow l) : AllStab Grow (appV E k n xs g S :: l) := ⟨stab_appV, h⟩
theorem upd_false {L : Nat → Bool} {i j : Nat} (h : upd L i j = false) : L j = false := by simp only [upd, Bool.or_eq_false_iff] at h; exact h.2
theorem grow_alloc (w : World) (o : Obj) : Grow w (w.alloc o) := (Below.refl _ _).alloc (Nat.le_refl _) o
theorem upd_true {L : Nat → Bool} {i j : Nat} (h : upd L i j = true) (hne : j ≠ i) : L j = true := by simp only [upd, Bool.or_eq_true, beq_iff_eq] at h; exact h.resolve_left hne
end Go.Proofs.YtehjfmjibiafdaaGreat

/- A region whose drawn head only reads; loads and stores of whole records in a region; rows of records that are stored whole. -/
namespace Go.Proofs.YtehjfmjibiafdaaGreat
open Go Go.RowKit

section
variable {P : Program}
def OpGoalQ (P : Program) (dsts : List (Option Tmp)) (pre : List (List Nat)) (vs : List Value) (a : World) (a0 : Act) (i : Nat) (o : Oper) : Prop :=
  ∀ (σ : Nat → Value), PreF (vs.map isV) σ a (pre.getD i []) →
    if wantedL dsts (putF dsts σ (pre.getD i []) a0) o.guard = true then YieldsR P o (putF dsts σ (pre.getD i []) a0).eval a (PostS (vs.getD i undef) a)
    else PostS (vs.getD i undef) a undef a
theorem allFrom_imp {p q : Nat → Oper → Prop} : ∀ (l : List Oper) (k : Nat), (∀ j o, l[j]? = some o → p (k + j) o → q (k + j) o) → AllFrom p k l → AllFrom q k l
  | [], _, _, _ => trivial
  | o :: l, k, h, ⟨h1, h2⟩ => ⟨h 0 o rfl h1, allFrom_imp l (k + 1) (fun j o' hj hp => by
      have := h (j + 1) o' (by simpa using hj)
      rw [show k + (j + 1) = k + 1 + j by omega] at this
      exact this hp) h2⟩
/-- A region that draws its order, whose head only reads. -/
theorem wp_planR {Q : Exit → Act → World → Prop} {id : Nat} {l : List Oper} {a0 : Act} {w0 : World} (m : Nat) (fl : List Nat) (dsts : List (Option Tmp)) (pre : List (List Nat)) (is : List Nat)
    (hm : P.follows .mixedOrders = true) (hd : l.map (·.dst) = dsts) (hc : planOk l.toArray pre = true) (hT : tailOkB l pre m fl = true) (hmn : m ≤ l.length) (his : List.range m = is)
    (h : ExL m fun vs => vs.length = m ∧ AllFrom (OpGoalQ P dsts pre vs w0.drew a0) 0 (l.take m) ∧
      (∀ (σ : Nat → Value), PreF (vs.map isV) σ w0.drew is → wpList P l.toArray (OnlyN Q) (l.drop m) (putF dsts σ is a0) w0.drew)) :
    (Code.region id l.toArray true).wp P Q a0 w0 := by
  obtain ⟨vs, hl, h1, h2⟩ := h.out
  have hgd : ∀ i, i < m → (vs.map isV).getD i (fun _ _ => True) = isV (vs.getD i undef) := fun i hi => by
    rw [List.getD_eq_getElem?_getD, List.getElem?_map, List.getD_eq_getElem?_getD]
    have : i < vs.length := by omega
    rw [List.getElem?_eq_getElem this]; rfl
  refine wp_planF m fl dsts pre is 0 (fun _ => vs.map isV) (fun _ _ V => V = w0.drew) hm hd hc hT hmn rfl his ?_
  show _ ∧ _
  refine ⟨allFrom_imp _ _ (fun j o hj hp => ?_) h1, ?_⟩
  · have hjm : j < m := by
      rcases Nat.lt_or_ge j m with h | h
      · exact h
      · rw [List.getElem?_eq_none (by rw [List.length_take]; omega)] at hj; cases hj
    intro L σ w hL1 hL2 hL3 hI hpre
    subst hI
    have := hp σ hpre
    simp only [Nat.zero_add] at this ⊢
    split
    · next hw =>
      rw [if_pos hw] at this
      refine this.mono ?_
      rintro v w' ⟨hv, hw'⟩
      subst hw'
      exact ⟨by rw [hgd j hjm]; exact hv, rfl, KeepAll.refl⟩
    · next hw =>
      rw [if_neg hw] at this
      exact ⟨by rw [hgd j hjm]; exact this.1, rfl, KeepAll.refl⟩
  · intro L σ w hL hI hpre
    subst hI
    exact h2 σ hpre

theorem yr_load {o : Oper} {ρ : Operand → Value} {w : World} {J : Value → World → Prop} (ty : TypeId) (x : Operand) (ho : o.op = .load ty x) (ad : Addr) (hx : ρ x = .pointer (some ad)) (xs : List Value) (d : TypeDesc)
    (hu : P.underlying ty = some d) (hd : (match d with | .struct _ | .array _ _ => true | _ => false) = true) (hi : (P.info? ty).map (·.size) = some xs.length) (hc : ∀ j u, xs[j]? = some u → w.cell? (ad.add j) = some u)
    (h : J (.agg xs.toArray) w) : YieldsR P o ρ w J := by
  unfold YieldsR
  rw [run_op_load ρ o w ty x ho ad hx xs d hu hd hi hc]
  exact h
end

/-- A store of a whole record. -/
theorem wpList_store_at {P : Program} {ops : Array Oper} {rest : List Oper} {op : Oper} {a : Act} {w : World} {Q : Exit → Act → World → Prop} (hgd : op.guard = none) (ty : TypeId) (x y : Operand) (ho : op.op = .store ty x y)
    (b o : Nat) (vs : List Value) (hx : a.eval x = .pointer (some ⟨b, o, none⟩)) (hy : a.eval y = .agg vs.toArray) (ht : w.there b o vs.length) (hi : (P.info? ty).map (·.size) = some vs.length) (h1 : ∀ u ∈ vs, u.oneCell' = true)
    (h : wpList P ops Q rest (a.put op.dst undef) (w.setCells b o vs)) : wpList P ops Q (op :: rest) a w := by
  refine wpList_store_mid hgd ty x y ho b o vs.toArray hx hy (by simpa using ht) (by simpa using hi) (all_oneCell_toArray h1) ?_
  rw [show vs.toArray.toList = vs by simp]
  exact h

/-! What is stored whole into a row. -/
def setL : List Value → Nat → List Value → List Value
  | xs, _, [] => xs
  | xs, i, v :: vs => setL (xs.set i v) (i + 1) vs
theorem setL_mid : ∀ (vs xs ys zs : List Value) (i : Nat), i + vs.length ≤ ys.length → setL (xs ++ ys ++ zs) (xs.length + i) vs = xs ++ setL ys i vs ++ zs
  | [], _, _, _, _, _ => rfl
  | v :: vs, xs, ys, zs, i, h => by
    simp only [List.length_cons] at h
    rw [setL, setL, List.append_assoc, List.set_append_right _ _ (by omega), show xs.length + i - xs.length = i by omega, List.set_append_left _ _ (by omega), ← List.append_assoc,
      show xs.length + i + 1 = xs.length + (i + 1) by omega, setL_mid vs xs (ys.set i v) zs (i + 1) (by simp; omega)]
theorem setL_all : ∀ (vs ys : List Value), vs.length = ys.length → setL ys 0 vs = vs := by
  have key : ∀ (vs ys zs : List Value), vs.length = zs.length → setL (ys ++ zs) ys.length vs = ys ++ vs := by
    intro vs
    induction vs with
    | nil => intro ys zs h; have : zs = [] := List.eq_nil_of_length_eq_zero (by simpa using h.symm); subst this; rfl
    | cons v vs ih =>
      intro ys zs h
      match zs, h with
      | z :: zs, h =>
        rw [setL, List.set_append_right _ _ (Nat.le_refl _), Nat.sub_self, List.set_cons_zero]
        have := ih (ys ++ [v]) zs (by simpa using h)
        simpa using this
  intro vs ys h
  simpa using key vs [] ys h
theorem flat_split {α : Type} {enc : α → List Value} {n : Nat} (hf : ∀ x, (enc x).length = n) (l : List α) (k : Nat) (hk : k < l.length) (y : α) :
    (l.set k y).flatMap enc = (l.take k).flatMap enc ++ enc y ++ (l.drop (k + 1)).flatMap enc ∧ ((l.take k).flatMap enc).length = k * n := by
  refine ⟨?_, by rw [flatV_length hf, List.length_take]; congr 1; omega⟩
  rw [List.set_eq_take_append_cons_drop, if_pos hk]
  simp
/-- A piece of record k of a row is stored. -/
theorem setL_flat {α : Type} {enc : α → List Value} {n : Nat} (hf : ∀ x, (enc x).length = n) (l : List α) (k : Nat) (hk : k < l.length) (o : Nat) (vs : List Value) (y : α) (ho : o + vs.length ≤ n) (he : setL (enc l[k]) o vs = enc y) :
    setL (l.flatMap enc) (k * n + o) vs = (l.set k y).flatMap enc := by
  obtain ⟨h1, h2⟩ := flat_split hf l k hk y
  obtain ⟨h3, -⟩ := flat_split hf l k hk l[k]
  rw [List.set_getElem_self] at h3
  rw [h1, h3, ← h2, setL_mid _ _ _ _ _ (by rw [hf]; exact ho), he]
theorem row_setCells {w : World} {B e size n g cap : Nat} : ∀ (vs : List Value) (i : Nat) (w : World) (xs : List Value), w.ownsRow B e size (.slice (some ⟨g, 0, none⟩) n cap) n xs → (w.setCells g i vs).ownsRow B e size (.slice (some ⟨g, 0, none⟩) n cap) n (setL xs i vs)
  | [], _, _, _, h => h
  | v :: vs, i, w, xs, h => row_setCells (w := w) vs (i + 1) _ _ (row_set h i v)
theorem mod_setCells {F : List Nat} {a : World} {g : Nat} (hg : g ∈ F ∨ a.heap.size ≤ g) : ∀ (vs : List Value) (i : Nat) (w : World), Mod F a w → Mod F a (w.setCells g i vs)
  | [], _, _, h => h
  | v :: vs, i, _, h => mod_setCells hg vs (i + 1) _ (h.setCell hg v)
theorem row_there {w : World} {B e size n g cap : Nat} {xs : List Value} (h : w.ownsRow B e size (.slice (some ⟨g, 0, none⟩) n cap) n xs) {i m : Nat} (hm : i + m ≤ xs.length) : w.there g i m := fun j hj => by
  have h1 : xs[i + j]? = some (xs[i + j]'(by omega)) := List.getElem?_eq_getElem (by omega)
  exact ⟨by rw [row_cell h h1]; rfl, row_free h _⟩
/-- A piece of a record of a row, as a load wants it. -/
theorem row_piece {α : Type} {enc : α → List Value} {n : Nat} (hf : ∀ x, (enc x).length = n) {w : World} {B e cap g : Nat} {l : List α} (h : w.ownsRow B e n (.slice (some ⟨g, 0, none⟩) l.length cap) l.length (l.flatMap enc)) {k : Nat} (hk : k < l.length) (o : Nat) (xs : List Value) (ho : ∀ j u, xs[j]? = some u → (enc l[k])[o + j]? = some u) :
    ∀ j u, xs[j]? = some u → w.cell? ((⟨g, k * n + o, none⟩ : Addr).add j) = some u := by
  intro j u hu
  obtain ⟨g', cap', he, hc⟩ := row_rec hf h hk
  simp only [Value.slice.injEq, Option.some.injEq, Addr.mk.injEq, and_true, true_and] at he
  obtain ⟨rfl, rfl⟩ := he
  have := hc (o + j) u (ho j u hu)
  have e : (⟨g, k * n + o, none⟩ : Addr).add j = ⟨g, k * n + (o + j), none⟩ := by
    unfold Addr.add
    split
    · next h0 => simp only [Addr.mk.injEq, true_and, and_true]; omega
    · simp only [Addr.mk.injEq, true_and, and_true]; omega
  rw [e]; exact this
end Go.Proofs.YtehjfmjibiafdaaGreat

/- Records of integers: beasts, rows, changes, bonds: their cells, and '==' at them. -/
namespace Go.Proofs.YtehjfmjibiafdaaGreat
open Go Go.RowKit

abbrev Hd := Int × Int
abbrev Bt := Int × Int × Int × Int × Int × Int × Int × Int × Int
abbrev Rw := Hd × Bt
abbrev Cg := Hd × Bt × Bt
abbrev Bd := Hd × Hd
def hdI : Hd → List Int | (a, b) => [a, b]
def btI : Bt → List Int | (k, a0, a1, a2, a3, a4, a5, a6, a7) => [k, a0, a1, a2, a3, a4, a5, a6, a7]
def rwI (r : Rw) : List Int := hdI r.1 ++ btI r.2
def cgI (c : Cg) : List Int := hdI c.1 ++ (btI c.2.1 ++ btI c.2.2)
def bdI (b : Bd) : List Int := hdI b.1 ++ hdI b.2
def btC (b : Bt) : List Value := ints (btI b)
def rwC (r : Rw) : List Value := ints (rwI r)
def bdC (b : Bd) : List Value := ints (bdI b)
theorem handleC_ints (h : Hd) : handleC h = ints (hdI h) := rfl
theorem rwC_len (b : Rw) : (rwC b).length = 11 := rfl
theorem bdC_len (b : Bd) : (bdC b).length = 4 := rfl
theorem ints_one (l : List Int) : ∀ u ∈ ints l, u.oneCell' = true := by
  intro u hu
  unfold ints at hu
  obtain ⟨z, -, rfl⟩ := List.mem_map.1 hu
  rfl
theorem ints_app (a b : List Int) : ints (a ++ b) = ints a ++ ints b := by simp [ints]
theorem rwC_one (b : Rw) : ∀ u ∈ rwC b, u.oneCell' = true := ints_one _
theorem bdC_one (b : Bd) : ∀ u ∈ bdC b, u.oneCell' = true := ints_one _
theorem rwC_parts (c : Rw) : rwC c = handleC c.1 ++ btC c.2 := by unfold rwC rwI btC; rw [ints_app, handleC_ints]
theorem hdI_inj {a b : Hd} (h : hdI a = hdI b) : a = b := by
  obtain ⟨a0, a1⟩ := a; obtain ⟨b0, b1⟩ := b
  simpa [hdI] using h
theorem btI_inj {a b : Bt} (h : btI a = btI b) : a = b := by
  obtain ⟨a0, a1, a2, a3, a4, a5, a6, a7, a8⟩ := a; obtain ⟨b0, b1, b2, b3, b4, b5, b6, b7, b8⟩ := b
  simpa [btI] using h
theorem app_inj {a b c d : List Int} (hl : a.length = c.length) (h : a ++ b = c ++ d) : a = c ∧ b = d := List.append_inj h hl
theorem rwI_inj {a b : Rw} (h : rwI a = rwI b) : a = b := by
  obtain ⟨h1, h2⟩ := app_inj (by rfl) h
  exact Prod.ext (hdI_inj h1) (btI_inj h2)
theorem cgI_inj {a b : Cg} (h : cgI a = cgI b) : a = b := by
  obtain ⟨h1, h2⟩ := app_inj (by rfl) h
  obtain ⟨h3, h4⟩ := app_inj (by rfl) h2
  exact Prod.ext (hdI_inj h1) (Prod.ext (btI_inj h3) (btI_inj h4))
instance : DecidableEq Bt := fun a b => decidable_of_iff (btI a = btI b) ⟨fun h => btI_inj h, fun h => congrArg _ h⟩
instance : DecidableEq Rw := fun a b => decidable_of_iff (rwI a = rwI b) ⟨fun h => rwI_inj h, fun h => congrArg _ h⟩
instance : DecidableEq Cg := fun a b => decidable_of_iff (cgI a = cgI b) ⟨fun h => cgI_inj h, fun h => congrArg _ h⟩
theorem eqB_inj {α β : Type} [DecidableEq α] [DecidableEq β] {f : α → β} (hf : ∀ {a b}, f a = f b → a = b) (a b : α) : eqB (f a) (f b) = eqB a b := by
  unfold eqB
  by_cases h : a = b
  · subst h; simp
  · rw [decide_eq_false h, decide_eq_false (fun e => h (hf e))]

theorem info_of {P : Program} {t : TypeId} {z : Value} {n b : Nat} (h : (P.info? t).map (fun i => (i.zero, i.size, i.bytes)) = some (some z, n, b)) : (P.info? t).map (·.size) = some n := by
  cases hq : P.info? t with
  | none => rw [hq] at h; cases h
  | some i => rw [hq] at h; simp only [Option.map_some, Option.some.injEq, Prod.mk.injEq] at h ⊢; exact h.2.1
theorem ieHandle (d : Nat) : IE Tryz.prog (d + 2) 41 (GInts (Tryz.prog.cellsOf 41)) := by
  rw [show Tryz.prog.cellsOf 41 = 2 by kernel_rfl]
  obtain ⟨i, hi⟩ := Option.isSome_iff_exists.1 (show (Tryz.prog.info? 41).isSome = true by kernel_rfl)
  exact (esHandle d).part Tryz.underlying41 rfl hi
theorem ieBeast (d : Nat) : IE Tryz.prog (d + 3) 50 (GInts (Tryz.prog.cellsOf 50)) := by
  rw [show Tryz.prog.cellsOf 50 = 9 by kernel_rfl]
  obtain ⟨i, hi⟩ := Option.isSome_iff_exists.1 (show (Tryz.prog.info? 50).isSome = true by kernel_rfl)
  exact (esBeast d).part Tryz.underlying50 rfl hi
theorem esRow (d : Nat) : ES Tryz.prog (d + 4) 69 (GInts 11) := by
  refine ES.flat (by kernel_rfl) (by kernel_rfl) 11 (by kernel_rfl) (by kernel_rfl) ?_
  intro f hf
  simp only [Program.fieldsOf, Tryz.underlying69, List.mem_cons, List.not_mem_nil, or_false] at hf
  rcases hf with rfl | rfl
  · exact ieHandle (d + 1)
  · exact ieBeast d
theorem neqRow (w : World) (x y : Rw) : (binOp .neq 69 (.agg (rwC x).toArray) (.agg (rwC y).toArray)).run Tryz.prog w = .ok (.bool (!eqB x y)) w := by
  refine ((esRow 9996).neqI w (rwI x) (rwI y) rfl rfl (x := (rwC x).toArray) (y := (rwC y).toArray) rfl rfl).trans ?_
  rw [eqB_inj rwI_inj]
theorem neqBeast (w : World) (x y : Bt) : (binOp .neq 50 (.agg (btC x).toArray) (.agg (btC y).toArray)).run Tryz.prog w = .ok (.bool (!eqB x y)) w := by
  refine ((esBeast 9997).neqI w (btI x) (btI y) rfl rfl (x := (btC x).toArray) (y := (btC y).toArray) rfl rfl).trans ?_
  rw [eqB_inj btI_inj]
theorem inf_Row : (Tryz.prog.info? 69).map (fun i => (i.zero, i.size, i.bytes)) = some (some (.agg (Array.replicate 11 (.int .i64 0))), 11, 88) := by kernel_rfl
theorem inf_Bond : (Tryz.prog.info? 84).map (fun i => (i.zero, i.size, i.bytes)) = some (some (.agg (Array.replicate 4 (.int .i64 0))), 4, 32) := by kernel_rfl

theorem sz_Row (x : Rw) : (Tryz.prog.info? 69).map (·.size) = some (rwC x).length := info_of inf_Row
section
variable {P : Program}
theorem setCells_block {w : World} {b : Nat} {t : TypeId} {f : Nat × Nat} : ∀ (vs : List Value) (i : Nat) (w : World) (xs : List Value), w.heap[b]? = some (.cells xs.toArray t f) → (w.setCells b i vs).heap[b]? = some (.cells (setL xs i vs).toArray t f)
  | [], _, _, _, h => h
  | v :: vs, i, w, xs, h => setCells_block (w := w) vs (i + 1) _ _ (by
      have := blk_set h i v
      rw [this]; simp)
theorem setCells_rest (b : Nat) : ∀ (vs : List Value) (i : Nat) (w : World), (w.setCells b i vs).os = w.os ∧ (w.setCells b i vs).tape = w.tape ∧ (w.setCells b i vs).output = w.output ∧ (w.setCells b i vs).drawn = w.drawn ∧ ∀ k, k ≠ b → (w.setCells b i vs).heap[k]? = w.heap[k]?
  | [], _, _ => ⟨rfl, rfl, rfl, rfl, fun _ _ => rfl⟩
  | v :: vs, i, w => by
    obtain ⟨h1, h2, h3, h5, h4⟩ := setCells_rest b vs (i + 1) (w.setCell ⟨b, i, none⟩ v)
    exact ⟨h1, h2, h3, h5, fun k hk => (h4 k hk).trans (blk_set_ne (by simpa using hk) v)⟩
theorem world_ext {a b : World} (h1 : a.os = b.os) (h2 : a.tape = b.tape) (h3 : a.output = b.output) (h5 : a.drawn = b.drawn) (h4 : ∀ k : Nat, a.heap[k]? = b.heap[k]?) : a = b := by
  have : a.heap = b.heap := Array.ext_getElem? h4
  cases a; cases b; simp_all
theorem store_new (w : World) (cs : List Value) (vs : List Value) (t : TypeId) (h : vs.length = cs.length) : (w.alloc (.cells cs.toArray t)).setCells w.heap.size 0 vs = w.alloc (.cells vs.toArray t) := by
  obtain ⟨h1, h2, h3, h5, h4⟩ := setCells_rest w.heap.size vs 0 (w.alloc (.cells cs.toArray t))
  refine world_ext h1 h2 h3 h5 fun k => ?_
  by_cases hk : k = w.heap.size
  · subst hk
    rw [setCells_block (w := w) vs 0 _ cs (heap_alloc_new w _), setL_all vs cs h]
    exact (heap_alloc_new w _).symm
  · rw [h4 k hk]
    rcases Nat.lt_or_ge k w.heap.size with h | h
    · rw [Below.heap_alloc _ _ _ h, Below.heap_alloc _ _ _ h]
    · rw [Array.getElem?_eq_none (by simp; omega), Array.getElem?_eq_none (by simp; omega)]
/-- A store of a whole record into the newest block. -/
theorem wpList_store_new {ops : Array Oper} {rest : List Oper} {op : Oper} {a : Act} {Q : Exit → Act → World → Prop} (hgd : op.guard = none) (ty : TypeId) (x y : Operand) (ho : op.op = .store ty x y)
    (w : World) (cs vs : List Value) (t : TypeId) (hx : a.eval x = .pointer (some ⟨w.heap.size, 0, none⟩)) (hy : a.eval y = .agg vs.toArray) (hl : vs.length = cs.length) (hi : (P.info? ty).map (·.size) = some vs.length) (h1 : ∀ u ∈ vs, u.oneCell' = true)
    (h : wpList P ops Q rest (a.put op.dst undef) (w.alloc (.cells vs.toArray t))) : wpList P ops Q (op :: rest) a (w.alloc (.cells cs.toArray t)) := by
  refine wpList_store_mid hgd ty x y ho w.heap.size 0 vs.toArray hx hy ?_ (by simpa using hi) (all_oneCell_toArray h1) ?_
  · intro j hj
    have hb := heap_alloc_new w (.cells cs.toArray t)
    have hj' : j < cs.length := by simp at hj; omega
    constructor
    · rw [Nat.zero_add, blk_cell hb]; simp [hj']
    · exact blk_free hb _
  · rw [show vs.toArray.toList = vs by simp, store_new w cs vs t hl]
    exact h
end
end Go.Proofs.YtehjfmjibiafdaaGreat

/- The reference's slots: Free, Take. -/
namespace Go.Proofs.YtehjfmjibiafdaaGreat
open Go.RowKit

attribute [local go_sem] AllFrom.cons_eq AllFrom.nil_eq putF_nil putF_cons wantedL_none wantedL_some OpGoalT OpGoalS OpGoalP YieldsR preF_nil preF_cons

/-- The reference's slots, opened at slot n. -/
theorem RepRS.at_ {w : World} {p : Nat} {l : Sl} {F : List Nat} (h : RepRS w p l F) {n : Nat} (hn : n < l.length) : ∃ g0 c0 g1 c1, w.heap[p]? = some (.cells #[.slice (some ⟨g0, 0, none⟩) l.length c0, .slice (some ⟨g1, 0, none⟩) l.length c1] 45 (0, 0)) ∧
    g0 ∈ F ∧ g1 ∈ F ∧ g0 ≠ g1 ∧ g1 ≠ g0 ∧ p ≠ g0 ∧ p ≠ g1 ∧ g0 < w.heap.size ∧ g1 < w.heap.size ∧ w.cell? ⟨g0, n, none⟩ = some (.int .i64 l[n].1) ∧ w.cell? ⟨g1, n, none⟩ = some (.bool l[n].2) ∧ (∀ i, w.frozen? ⟨g0, i, none⟩ = false) ∧ (∀ i, w.frozen? ⟨g1, i, none⟩ = false) ∧
    (∀ g b, RepRS ((w.setCell ⟨g1, n, none⟩ (.bool b)).setCell ⟨g0, n, none⟩ (.int .i64 g)) p (l.set n (g, b)) F) ∧ (∀ b, RepRS (w.setCell ⟨g1, n, none⟩ (.bool b)) p (l.set n (l[n].1, b)) F) := by
  obtain ⟨vg, vl, hp, hg, hl, rfl, hne⟩ := h
  obtain ⟨g0, c0, cur0, rfl, -, hb0, -⟩ := row_some hg (by omega)
  obtain ⟨g1, c1, cur1, rfl, -, hb1, -⟩ := row_some hl (by omega)
  have hne' := hne
  simp [Value.ownBlock] at hne'
  obtain ⟨⟨n1, n2⟩, n3⟩ := hne'
  refine ⟨g0, c0, g1, c1, hp, by simp [Value.ownBlock], by simp [Value.ownBlock], n3, fun e => n3 e.symm, n1, n2, blk_lt hb0, blk_lt hb1, row_cell hg (gens_get l n hn), row_cell hl (lives_get l n hn), blk_free hb0, blk_free hb1, fun g b => ?_, fun b => ?_⟩
  · refine ⟨_, _, ?_, ?_, ?_, rfl, hne⟩
    · rw [blk_set_ne (by simpa using n1), blk_set_ne (by simpa using n2)]; exact hp
    · have h2 := row_set (row_mod hg ((Mod.refl [g1] w).setCell (p := ⟨g1, n, none⟩) (.inl (by simp)) (.bool b)) (by simp [Value.ownBlock, n3])) n (.int .i64 g)
      rw [List.length_set]
      rw [show ints (gensS (l.set n (g, b))) = (ints (gensS l)).set n (.int .i64 g) by simp [ints, gensS, List.map_set]]
      exact h2
    · have h2 := row_mod (row_set hl n (.bool b)) ((Mod.refl [g0] _).setCell (p := ⟨g0, n, none⟩) (.inl (by simp)) (.int .i64 g)) (by simp [Value.ownBlock]; exact fun e => n3 e.symm)
      rw [List.length_set]
      rw [show bools (livesS (l.set n (g, b))) = (bools (livesS l)).set n (.bool b) by simp [bools, livesS, List.map_set]]
      exact h2
  · refine ⟨_, _, ?_, ?_, ?_, rfl, hne⟩
    · rw [blk_set_ne (by simpa using n2)]; exact hp
    · rw [List.length_set]
      rw [show gensS (l.set n (l[n].1, b)) = gensS l by
        have e : (l.map (·.1))[n]'(by simpa using hn) = l[n].1 := by simp
        simp only [gensS, List.map_set]
        rw [← e]
        exact List.set_getElem_self _]
      exact row_mod hg ((Mod.refl [g1] w).setCell (p := ⟨g1, n, none⟩) (.inl (by simp)) (.bool b)) (by simp [Value.ownBlock, n3])
    · have h2 := row_set hl n (.bool b)
      rw [List.length_set]
      rw [show bools (livesS (l.set n (l[n].1, b))) = (bools (livesS l)).set n (.bool b) by simp [bools, livesS, List.map_set]]
      exact h2

end Go.Proofs.YtehjfmjibiafdaaGreat
