import Derived.Test.YtfbcdblgfhekpaaDiffAppliesJ6
import Derived.Test.YtfbcdblgfhekpaaDiffAppliesJ3
import Derived.Test.YtfbcdblgfhekpaaDiffAppliesJ5
import Derived.Deep.MidRow
import Derived.Test.YtfbcdblgfhekpaaDiffAppliesJ4
import Derived.Lib.LazyBuf
import Derived.Deep.QuietTactic
import Derived.BigQuiet
/- append, make and the like inside a region that draws its order, and behind one. -/
namespace Go.Proofs.Ytfbcdblgfhekpaa
open Go Go.RowKit

/-- A slice of one new record. -/
def oneR (S : Nat) (ys : Array Value) (t : TypeId) : Value → World → Prop := fun v w => ∃ b, v = .slice (some ⟨b, 0, none⟩) 1 1 ∧ S ≤ b ∧ w.heap[b]? = some (.cells ys t (0, 0))
theorem oneR_mod {S : Nat} {ys : Array Value} {t : TypeId} {F : List Nat} {v : Value} {w w' : World} (h : oneR S ys t v w) (hm : Mod F w w') (hF : ∀ k ∈ F, k < S) : oneR S ys t v w' := by
  obtain ⟨b, h1, h2, h3⟩ := h
  exact ⟨b, h1, h2, hm.keep h3 (fun hk => by have := hF b hk; omega)⟩
theorem oneR_new {S : Nat} {ys : Array Value} {t : TypeId} {w : World} (h : S ≤ w.heap.size) : oneR S ys t (.slice (some ⟨w.heap.size, 0, none⟩) 1 1) (w.alloc (.cells ys t)) := ⟨_, rfl, h, heap_alloc_new w _⟩
theorem oneR_cells {S : Nat} {ys : Array Value} {t : TypeId} {v : Value} {w : World} {xs : List Value} (h : oneR S ys t v w) (he : ys.toList = xs) : ∃ ad, v = .slice (some ad) 1 1 ∧ ∀ j u, xs[j]? = some u → w.cell? (ad.add j) = some u := by
  obtain ⟨b, rfl, -, hb⟩ := h
  refine ⟨_, rfl, fun j u hu => ?_⟩
  subst he
  have e : (⟨b, 0, none⟩ : Addr).add j = ⟨b, j, none⟩ := by unfold Addr.add; split <;> simp_all
  rw [e, blk_cell hb]
  simpa using hu

section
variable {P : Program} {α : Type} {enc : α → List Value} {n : Nat}
/-- append of one record, in a region. -/
theorem yr_app {o : Oper} {ρ : Operand → Value} {w : World} {J : Value → World → Prop} (s x : Operand) (T E : TypeId)
    (ho : o.op = .call { callee := .builtin .append, args := #[s, x], argTypes := #[T, T] }) (ht : P.underlying T = some (.slice E)) {z : Value} {bytes : Nat}
    (hinf : (P.info? E).map (fun i => (i.zero, i.size, i.bytes)) = some (some z, n, bytes)) (hzs : z.cells.size = n) (hn : 0 < n) (hby : 0 < bytes) (hone : ∀ x, ∀ u ∈ enc x, u.oneCell' = true) (hf : ∀ x, (enc x).length = n)
    (base : Nat) (v : Value) (l : List α) (y : α) (S : Nat) (ys : Array Value) (t : TypeId) (hs : ρ s = v) (hown : w.ownsRow base E n v l.length (l.flatMap enc)) (hx : oneR S ys t (ρ x) w) (hys : ys.toList = enc y)
    (hlen : (l.length + 1) * bytes ≤ 140737488355328) (hbase : base ≤ w.heap.size)
    (h : ∀ v' w', w'.ownsRow base E n v' (l ++ [y]).length ((l ++ [y]).flatMap enc) → w.grownBy w' v.ownBlock → (v'.ownBlock = v.ownBlock ∨ v'.ownBlock = some w.heap.size) → J v' w') : YieldsR P o ρ w J := by
  obtain ⟨i0, hi, hz0, hz1, hz2⟩ := info_parts hinf
  have h1 : l.length + 1 ≤ (l.length + 1) * bytes := Nat.le_mul_of_pos_right _ hby
  obtain ⟨ad, hxe, hc⟩ := oneR_cells hx hys
  obtain ⟨v', w', hr, h2, h3, h4, h5⟩ := run_append_own_at (P := P) w base T o.type E i0 z n bytes ht hi hz0 hz1 hz2 hzs hn v l.length _ hown ad 1 1 (enc y) (by rw [hf, Nat.one_mul]) hc (hone y) (by unfold maxLen; omega) hlen hbase
  unfold YieldsR execOp
  simp only [ho, resolve, invoke, builtin, Sem.run_bind, Sem.run_pure, Result.andThen_ok, List.map_toArray, List.map_cons, List.map_nil, hs, hxe, hr]
  refine h v' w' ?_ h3 h5
  rw [List.length_append, List.flatMap_append]
  simpa using h2
/-- The same, behind a region. -/
theorem app_oneR {w : World} {ops : Array Oper} {rest : List Oper} {o : Oper} {a : Act} {Q : Exit → Act → World → Prop} (hgd : o.guard = none) (s x : Operand) (T E : TypeId)
    (ho : o.op = .call { callee := .builtin .append, args := #[s, x], argTypes := #[T, T] }) (ht : P.underlying T = some (.slice E)) {z : Value} {bytes : Nat}
    (hinf : (P.info? E).map (fun i => (i.zero, i.size, i.bytes)) = some (some z, n, bytes)) (hzs : z.cells.size = n) (hn : 0 < n) (hby : 0 < bytes) (hone : ∀ x, ∀ u ∈ enc x, u.oneCell' = true) (hf : ∀ x, (enc x).length = n)
    (base : Nat) (v : Value) (l : List α) (y : α) (S : Nat) (ys : Array Value) (t : TypeId) (hs : a.eval s = v) (hown : w.ownsRow base E n v l.length (l.flatMap enc)) (hx : oneR S ys t (a.eval x) w) (hys : ys.toList = enc y)
    (hlen : (l.length + 1) * bytes ≤ 140737488355328) (hbase : base ≤ w.heap.size)
    (h : ∀ v' w', w'.ownsRow base E n v' (l ++ [y]).length ((l ++ [y]).flatMap enc) → w.grownBy w' v.ownBlock → (v'.ownBlock = v.ownBlock ∨ v'.ownBlock = some w.heap.size) → wpList P ops Q rest (a.put o.dst v') w') : wpList P ops Q (o :: rest) a w := by
  obtain ⟨ad, hxe, hc⟩ := oneR_cells hx hys
  exact app_rec hgd s x T E ho ht hinf hzs hn hby hone hf base v l y ad 1 hs hown hxe hc hlen hbase h
end
end Go.Proofs.Ytfbcdblgfhekpaa

/- A region whose drawn head only reads; loads and stores of whole records in a region; rows of records that are stored whole. -/
namespace Go.Proofs.Ytfbcdblgfhekpaa
open Go Go.RowKit

section
variable {P : Program}
def OpGoalQ (P : Program) (dsts : List (Option Tmp)) (pre : List (List Nat)) (vs : List Value) (a : World) (a0 : Act) (i : Nat) (o : Oper) : Prop :=
  ∀ (σ : Nat → Value), PreF (vs.map isV) σ a (pre.getD i []) →
    if wantedL dsts (putF dsts σ (pre.getD i []) a0) o.guard = true then YieldsR P o (putF dsts σ (pre.getD i []) a0).eval a (PostS (vs.getD i undef) a)
    else PostS (vs.getD i undef) a undef a
theorem allFrom_imp {p q : Nat → Oper → Prop} : ∀ (l : List Oper) (k : Nat), (∀ j o, l[j]? = some o → p (k + j) o → q (k + j) o) → AllFrom p k l → AllFrom q k l
  | [], _, _, _ => trivial
  | o :: l, k, h, ⟨h1, h2⟩ => ⟨h 0 o rfl h1, allFrom_imp l (k + 1) (fun j o' hj hp => by
      have := h (j + 1) o' (by simpa using hj)
      rw [show k + (j + 1) = k + 1 + j by omega] at this
      exact this hp) h2⟩
/-- A region that draws its order, whose head only reads. -/
theorem wp_planR {Q : Exit → Act → World → Prop} {id : Nat} {l : List Oper} {a0 : Act} {w0 : World} (m : Nat) (fl : List Nat) (dsts : List (Option Tmp)) (pre : List (List Nat)) (is : List Nat)
    (hm : P.follows .mixedOrders = true) (hd : l.map (·.dst) = dsts) (hc : planOk l.toArray pre = true) (hT : tailOkB l pre m fl = true) (hmn : m ≤ l.length) (his : List.range m = is)
    (h : ExL m fun vs => vs.length = m ∧ AllFrom (OpGoalQ P dsts pre vs w0.drew a0) 0 (l.take m) ∧
      (∀ (σ : Nat → Value), PreF (vs.map isV) σ w0.drew is → wpList P l.toArray (OnlyN Q) (l.drop m) (putF dsts σ is a0) w0.drew)) :
    (Code.region id l.toArray true).wp P Q a0 w0 := by
  obtain ⟨vs, hl, h1, h2⟩ := h.out
  have hgd : ∀ i, i < m → (vs.map isV).getD i (fun _ _ => True) = isV (vs.getD i undef) := fun i hi => by
    rw [List.getD_eq_getElem?_getD, List.getElem?_map, List.getD_eq_getElem?_getD]
    have : i < vs.length := by omega
    rw [List.getElem?_eq_getElem this]; rfl
  refine wp_planF m fl dsts pre is 0 (fun _ => vs.map isV) (fun _ _ V => V = w0.drew) hm hd hc hT hmn rfl his ?_
  show _ ∧ _
  refine ⟨allFrom_imp _ _ (fun j o hj hp => ?_) h1, ?_⟩
  · have hjm : j < m := by
      rcases Nat.lt_or_ge j m with h | h
      · exact h
      · rw [List.getElem?_eq_none (by rw [List.length_take]; omega)] at hj; cases hj
    intro L σ w hL1 hL2 hL3 hI hpre
    subst hI
    have := hp σ hpre
    simp only [Nat.zero_add] at this ⊢
    split
    · next hw =>
      rw [if_pos hw] at this
      refine this.mono ?_
      rintro v w' ⟨hv, hw'⟩
      subst hw'
      exact ⟨by rw [hgd j hjm]; exact hv, rfl, KeepAll.refl⟩
    · next hw =>
      rw [if_neg hw] at this
      exact ⟨by rw [hgd j hjm]; exact this.1, rfl, KeepAll.refl⟩
  · intro L σ w hL hI hpre
    subst hI
    exact h2 σ hpre

theorem yr_load {o : Oper} {ρ : Operand → Value} {w : World} {J : Value → World → Prop} (ty : TypeId) (x : Operand) (ho : o.op = .load ty x) (ad : Addr) (hx : ρ x = .pointer (some ad)) (xs : List Value) (d : TypeDesc)
    (hu : P.underlying ty = some d) (hd : (match d with | .struct _ | .array _ _ => true | _ => false) = true) (hi : (P.info? ty).map (·.size) = some xs.length) (hc : ∀ j u, xs[j]? = some u → w.cell? (ad.add j) = some u)
    (h : J (.agg xs.toArray) w) : YieldsR P o ρ w J := by
  unfold YieldsR
  rw [run_op_load ρ o w ty x ho ad hx xs d hu hd hi hc]
  exact h
end

def setL : List Value → Nat → List Value → List Value
  | xs, _, [] => xs
  | xs, i, v :: vs => setL (xs.set i v) (i + 1) vs
theorem setL_all : ∀ (vs ys : List Value), vs.length = ys.length → setL ys 0 vs = vs := by
  have key : ∀ (vs ys zs : List Value), vs.length = zs.length → setL (ys ++ zs) ys.length vs = ys ++ vs := by
    intro vs
    induction vs with
    | nil => intro ys zs h; have : zs = [] := List.eq_nil_of_length_eq_zero (by simpa using h.symm); subst this; rfl
    | cons v vs ih =>
      intro ys zs h
      match zs, h with
      | z :: zs, h =>
        rw [setL, List.set_append_right _ _ (Nat.le_refl _), Nat.sub_self, List.set_cons_zero]
        have := ih (ys ++ [v]) zs (by simpa using h)
        simpa using this
  intro vs ys h
  simpa using key vs [] ys h
end Go.Proofs.Ytfbcdblgfhekpaa

/- Records of integers: beasts, rows, changes, bonds: their cells, and '==' at them. -/
namespace Go.Proofs.Ytfbcdblgfhekpaa
open Go Go.RowKit

abbrev Hd := Int × Int
abbrev Bt := Int × Int × Int × Int × Int × Int × Int × Int × Int
abbrev Rw := Hd × Bt
abbrev Cg := Hd × Bt × Bt
abbrev Bd := Hd × Hd
def hdI : Hd → List Int | (a, b) => [a, b]
def btI : Bt → List Int | (k, a0, a1, a2, a3, a4, a5, a6, a7) => [k, a0, a1, a2, a3, a4, a5, a6, a7]
def rwI (r : Rw) : List Int := hdI r.1 ++ btI r.2
def cgI (c : Cg) : List Int := hdI c.1 ++ (btI c.2.1 ++ btI c.2.2)
def btC (b : Bt) : List Value := ints (btI b)
def rwC (r : Rw) : List Value := ints (rwI r)
def cgC (c : Cg) : List Value := ints (cgI c)
theorem handleC_ints (h : Hd) : handleC h = ints (hdI h) := rfl
theorem rwC_len (b : Rw) : (rwC b).length = 11 := rfl
theorem cgC_len (b : Cg) : (cgC b).length = 20 := rfl
theorem ints_one (l : List Int) : ∀ u ∈ ints l, u.oneCell' = true := by
  intro u hu
  unfold ints at hu
  obtain ⟨z, -, rfl⟩ := List.mem_map.1 hu
  rfl
theorem ints_app (a b : List Int) : ints (a ++ b) = ints a ++ ints b := by simp [ints]
theorem rwC_one (b : Rw) : ∀ u ∈ rwC b, u.oneCell' = true := ints_one _
theorem cgC_one (b : Cg) : ∀ u ∈ cgC b, u.oneCell' = true := ints_one _
theorem cgC_parts (c : Cg) : cgC c = handleC c.1 ++ (btC c.2.1 ++ btC c.2.2) := by unfold cgC cgI btC; rw [ints_app, ints_app, handleC_ints]
theorem hdI_mk : ∀ zs : List Int, zs.length = 2 → ∃ x, hdI x = zs
  | [a, b], _ => ⟨(a, b), rfl⟩
theorem btI_mk : ∀ zs : List Int, zs.length = 9 → ∃ x, btI x = zs
  | [k, a0, a1, a2, a3, a4, a5, a6, a7], _ => ⟨(k, a0, a1, a2, a3, a4, a5, a6, a7), rfl⟩
theorem rwI_mk (zs : List Int) (h : zs.length = 11) : ∃ x, rwI x = zs := by
  obtain ⟨a, ha⟩ := hdI_mk (zs.take 2) (by rw [List.length_take]; omega)
  obtain ⟨b, hb⟩ := btI_mk (zs.drop 2) (by rw [List.length_drop]; omega)
  exact ⟨(a, b), by unfold rwI; rw [ha, hb, List.take_append_drop]⟩
theorem cgI_mk (zs : List Int) (h : zs.length = 20) : ∃ x, cgI x = zs := by
  obtain ⟨a, ha⟩ := hdI_mk (zs.take 2) (by rw [List.length_take]; omega)
  obtain ⟨b, hb⟩ := btI_mk ((zs.drop 2).take 9) (by rw [List.length_take, List.length_drop]; omega)
  obtain ⟨c, hc⟩ := btI_mk ((zs.drop 2).drop 9) (by rw [List.length_drop, List.length_drop]; omega)
  exact ⟨(a, b, c), by unfold cgI; rw [ha, hb, hc, List.take_append_drop, List.take_append_drop]⟩
theorem hdI_inj {a b : Hd} (h : hdI a = hdI b) : a = b := by
  obtain ⟨a0, a1⟩ := a; obtain ⟨b0, b1⟩ := b
  simpa [hdI] using h
theorem btI_inj {a b : Bt} (h : btI a = btI b) : a = b := by
  obtain ⟨a0, a1, a2, a3, a4, a5, a6, a7, a8⟩ := a; obtain ⟨b0, b1, b2, b3, b4, b5, b6, b7, b8⟩ := b
  simpa [btI] using h
theorem app_inj {a b c d : List Int} (hl : a.length = c.length) (h : a ++ b = c ++ d) : a = c ∧ b = d := List.append_inj h hl
theorem rwI_inj {a b : Rw} (h : rwI a = rwI b) : a = b := by
  obtain ⟨h1, h2⟩ := app_inj (by rfl) h
  exact Prod.ext (hdI_inj h1) (btI_inj h2)
theorem cgI_inj {a b : Cg} (h : cgI a = cgI b) : a = b := by
  obtain ⟨h1, h2⟩ := app_inj (by rfl) h
  obtain ⟨h3, h4⟩ := app_inj (by rfl) h2
  exact Prod.ext (hdI_inj h1) (Prod.ext (btI_inj h3) (btI_inj h4))
instance : DecidableEq Bt := fun a b => decidable_of_iff (btI a = btI b) ⟨fun h => btI_inj h, fun h => congrArg _ h⟩
instance : DecidableEq Rw := fun a b => decidable_of_iff (rwI a = rwI b) ⟨fun h => rwI_inj h, fun h => congrArg _ h⟩
instance : DecidableEq Cg := fun a b => decidable_of_iff (cgI a = cgI b) ⟨fun h => cgI_inj h, fun h => congrArg _ h⟩
theorem eqB_inj {α β : Type} [DecidableEq α] [DecidableEq β] {f : α → β} (hf : ∀ {a b}, f a = f b → a = b) (a b : α) : eqB (f a) (f b) = eqB a b := by
  unfold eqB
  by_cases h : a = b
  · subst h; simp
  · rw [decide_eq_false h, decide_eq_false (fun e => h (hf e))]

theorem info_of {P : Program} {t : TypeId} {z : Value} {n b : Nat} (h : (P.info? t).map (fun i => (i.zero, i.size, i.bytes)) = some (some z, n, b)) : (P.info? t).map (·.size) = some n := by
  cases hq : P.info? t with
  | none => rw [hq] at h; cases h
  | some i => rw [hq] at h; simp only [Option.map_some, Option.some.injEq, Prod.mk.injEq] at h ⊢; exact h.2.1
theorem ieHandle (d : Nat) : IE Try.prog (d + 2) 28 (GInts (Try.prog.cellsOf 28)) := by
  rw [show Try.prog.cellsOf 28 = 2 by kernel_rfl]
  obtain ⟨i, hi⟩ := Option.isSome_iff_exists.1 (show (Try.prog.info? 28).isSome = true by kernel_rfl)
  exact (esHandle d).part Try.underlying28 rfl hi
theorem ieBeast (d : Nat) : IE Try.prog (d + 3) 31 (GInts (Try.prog.cellsOf 31)) := by
  rw [show Try.prog.cellsOf 31 = 9 by kernel_rfl]
  obtain ⟨i, hi⟩ := Option.isSome_iff_exists.1 (show (Try.prog.info? 31).isSome = true by kernel_rfl)
  exact (esBeast d).part Try.underlying31 rfl hi
theorem esRow (d : Nat) : ES Try.prog (d + 4) 33 (GInts 11) := by
  refine ES.flat (by kernel_rfl) (by kernel_rfl) 11 (by kernel_rfl) (by kernel_rfl) ?_
  intro f hf
  simp only [Program.fieldsOf, Try.underlying33, List.mem_cons, List.not_mem_nil, or_false] at hf
  rcases hf with rfl | rfl
  · exact ieHandle (d + 1)
  · exact ieBeast d
theorem neqRow (w : World) (x y : Rw) : (binOp .neq 33 (.agg (rwC x).toArray) (.agg (rwC y).toArray)).run Try.prog w = .ok (.bool (!eqB x y)) w := by
  refine ((esRow 9996).neqI w (rwI x) (rwI y) rfl rfl (x := (rwC x).toArray) (y := (rwC y).toArray) rfl rfl).trans ?_
  rw [eqB_inj rwI_inj]
theorem neqBeast (w : World) (x y : Bt) : (binOp .neq 31 (.agg (btC x).toArray) (.agg (btC y).toArray)).run Try.prog w = .ok (.bool (!eqB x y)) w := by
  refine ((esBeast 9997).neqI w (btI x) (btI y) rfl rfl (x := (btC x).toArray) (y := (btC y).toArray) rfl rfl).trans ?_
  rw [eqB_inj btI_inj]
theorem eqlBt (w : World) (x y : Bt) : (binOp .eql 31 (.agg (btC x).toArray) (.agg (btC y).toArray)).run Try.prog w = .ok (.bool (eqB x y)) w := by
  refine ((esBeast 9997).eqlI w (btI x) (btI y) rfl rfl (x := (btC x).toArray) (y := (btC y).toArray) rfl rfl).trans ?_
  rw [eqB_inj btI_inj]
theorem inf_Row : (Try.prog.info? 33).map (fun i => (i.zero, i.size, i.bytes)) = some (some (.agg (Array.replicate 11 (.int .i64 0))), 11, 88) := by kernel_rfl
theorem inf_Change : (Try.prog.info? 36).map (fun i => (i.zero, i.size, i.bytes)) = some (some (.agg (Array.replicate 20 (.int .i64 0))), 20, 160) := by kernel_rfl
theorem sz_Row (x : Rw) : (Try.prog.info? 33).map (·.size) = some (rwC x).length := info_of inf_Row
theorem sz_Change (x : Cg) : (Try.prog.info? 36).map (·.size) = some (cgC x).length := info_of inf_Change
section
variable {P : Program}
theorem setCells_block {w : World} {b : Nat} {t : TypeId} {f : Nat × Nat} : ∀ (vs : List Value) (i : Nat) (w : World) (xs : List Value), w.heap[b]? = some (.cells xs.toArray t f) → (w.setCells b i vs).heap[b]? = some (.cells (setL xs i vs).toArray t f)
  | [], _, _, _, h => h
  | v :: vs, i, w, xs, h => setCells_block (w := w) vs (i + 1) _ _ (by
      have := blk_set h i v
      rw [this]; simp)
theorem setCells_rest (b : Nat) : ∀ (vs : List Value) (i : Nat) (w : World), (w.setCells b i vs).os = w.os ∧ (w.setCells b i vs).tape = w.tape ∧ (w.setCells b i vs).output = w.output ∧ (w.setCells b i vs).drawn = w.drawn ∧ ∀ k, k ≠ b → (w.setCells b i vs).heap[k]? = w.heap[k]?
  | [], _, _ => ⟨rfl, rfl, rfl, rfl, fun _ _ => rfl⟩
  | v :: vs, i, w => by
    obtain ⟨h1, h2, h3, h5, h4⟩ := setCells_rest b vs (i + 1) (w.setCell ⟨b, i, none⟩ v)
    exact ⟨h1, h2, h3, h5, fun k hk => (h4 k hk).trans (blk_set_ne (by simpa using hk) v)⟩
theorem world_ext {a b : World} (h1 : a.os = b.os) (h2 : a.tape = b.tape) (h3 : a.output = b.output) (h5 : a.drawn = b.drawn) (h4 : ∀ k : Nat, a.heap[k]? = b.heap[k]?) : a = b := by
  have : a.heap = b.heap := Array.ext_getElem? h4
  cases a; cases b; simp_all
theorem store_new (w : World) (cs : List Value) (vs : List Value) (t : TypeId) (h : vs.length = cs.length) : (w.alloc (.cells cs.toArray t)).setCells w.heap.size 0 vs = w.alloc (.cells vs.toArray t) := by
  obtain ⟨h1, h2, h3, h5, h4⟩ := setCells_rest w.heap.size vs 0 (w.alloc (.cells cs.toArray t))
  refine world_ext h1 h2 h3 h5 fun k => ?_
  by_cases hk : k = w.heap.size
  · subst hk
    rw [setCells_block (w := w) vs 0 _ cs (heap_alloc_new w _), setL_all vs cs h]
    exact (heap_alloc_new w _).symm
  · rw [h4 k hk]
    rcases Nat.lt_or_ge k w.heap.size with h | h
    · rw [Below.heap_alloc _ _ _ h, Below.heap_alloc _ _ _ h]
    · rw [Array.getElem?_eq_none (by simp; omega), Array.getElem?_eq_none (by simp; omega)]
/-- A store of a whole record into the newest block. -/
theorem wpList_store_new {ops : Array Oper} {rest : List Oper} {op : Oper} {a : Act} {Q : Exit → Act → World → Prop} (hgd : op.guard = none) (ty : TypeId) (x y : Operand) (ho : op.op = .store ty x y)
    (w : World) (cs vs : List Value) (t : TypeId) (hx : a.eval x = .pointer (some ⟨w.heap.size, 0, none⟩)) (hy : a.eval y = .agg vs.toArray) (hl : vs.length = cs.length) (hi : (P.info? ty).map (·.size) = some vs.length) (h1 : ∀ u ∈ vs, u.oneCell' = true)
    (h : wpList P ops Q rest (a.put op.dst undef) (w.alloc (.cells vs.toArray t))) : wpList P ops Q (op :: rest) a (w.alloc (.cells cs.toArray t)) := by
  refine wpList_store_mid hgd ty x y ho w.heap.size 0 vs.toArray hx hy ?_ (by simpa using hi) (all_oneCell_toArray h1) ?_
  · intro j hj
    have hb := heap_alloc_new w (.cells cs.toArray t)
    have hj' : j < cs.length := by simp at hj; omega
    constructor
    · rw [Nat.zero_add, blk_cell hb]; simp [hj']
    · exact blk_free hb _
  · rw [show vs.toArray.toList = vs by simp, store_new w cs vs t hl]
    exact h
end
end Go.Proofs.Ytfbcdblgfhekpaa

/- Lists of changes: Clone, Reverse, Invert. -/
namespace Go.Proofs.Ytfbcdblgfhekpaa
open Go Go.RowKit

attribute [local go_sem] AllFrom.cons_eq AllFrom.nil_eq putF_nil putF_cons wantedL_none wantedL_some OpGoalQ YieldsR preF_nil preF_cons

end Go.Proofs.Ytfbcdblgfhekpaa

/- Invert. -/
namespace Go.Proofs.Ytfbcdblgfhekpaa
open Go Go.RowKit

/-- A piece of a change is stored: its beasts. -/
theorem cg_split (c : Cg) : cgC c = handleC c.1 ++ btC c.2.1 ++ btC c.2.2 := by rw [cgC_parts, List.append_assoc]
theorem cg_old (c : Cg) : ∀ j u, (btC c.2.1)[j]? = some u → (cgC c)[2 + j]? = some u := by
  intro j u hu
  rw [cgC_parts, List.getElem?_append_right (by show 2 ≤ 2 + j; omega), show 2 + j - (handleC c.1).length = j by show 2 + j - 2 = j; omega, List.getElem?_append_left (by have := (List.getElem?_eq_some_iff.1 hu).1; exact this)]
  exact hu
theorem cg_now (c : Cg) : ∀ j u, (btC c.2.2)[j]? = some u → (cgC c)[11 + j]? = some u := by
  intro j u hu
  rw [cg_split, List.getElem?_append_right (by show 11 ≤ 11 + j; omega), show 11 + j - (handleC c.1 ++ btC c.2.1).length = j by show 11 + j - 11 = j; omega]
  exact hu

attribute [local go_sem] AllFrom.cons_eq AllFrom.nil_eq putF_nil putF_cons wantedL_none wantedL_some OpGoalQ YieldsR preF_nil preF_cons

end Go.Proofs.Ytfbcdblgfhekpaa

/- Between at one row that may not be. -/
namespace Go.Proofs.Ytfbcdblgfhekpaa
open Go Go.RowKit

def withinB (n lo hi : Int) : Bool := decide (lo ≤ n) && decide (n ≤ hi)
theorem within_any (n lo hi : Int) (w : World) : Calls Try.prog 27 #[.int .i64 n, .int .i64 lo, .int .i64 hi] w fun e w' => e = .returned (.bool (withinB n lo hi)) ∧ w = w' := by
  by_cases h : lo ≤ n
  · have hd : decide (lo ≤ n) = true := by simpa using h
    have H := Lib.hid (show withinB n lo hi = decide (n ≤ hi) by unfold withinB; rw [hd]; rfl)
    clear h
    go_enter Try.func27, Try.ntmps27
    go_wp2
    go_ret
    exact ⟨by rw [H.out]; rfl, rfl⟩
  · have hd : decide (lo ≤ n) = false := by simpa using h
    have H := Lib.hid (show withinB n lo hi = false by unfold withinB; rw [hd]; rfl)
    clear h
    go_enter Try.func27, Try.ntmps27
    go_wp2
    go_ret
    exact ⟨by rw [H.out]; rfl, rfl⟩

def badRow : List Value := ints [-1, 0, 0, 0, 0, 0, 0, 0, 0, 0, 0]
attribute [local go_sem] AllFrom.cons_eq AllFrom.nil_eq putF_nil putF_cons wantedL_none wantedL_some OpGoalQ YieldsR preF_nil preF_cons

set_option maxRecDepth 100000 in
set_option maxHeartbeats 4000000 in
theorem may_bad (b : Nat) (w : World) (hb : w.heap[b]? = some (.cells badRow.toArray 33 (0, 0))) :
    Calls Try.prog 11 #[.slice (some ⟨b, 0, none⟩) 1 1] w fun e w' => e = .returned (.bool false) ∧ Below w.heap.size w w' := by
  have hlt := blk_lt hb
  have hc : ∀ j u, badRow[j]? = some u → w.cell? ((⟨b, 0, none⟩ : Addr).add j) = some u := fun j u hu => by
    rw [Addr.add_mid, blk_cell hb]; simpa using hu
  have HC := Lib.hid hc
  have H1 := Lib.hid (show ∀ w, Calls Try.prog 27 #[.int .i64 (-1), .int .i64 0, .int .i64 59] w fun e w' => e = .returned (.bool false) ∧ w = w' from fun w => within_any (-1) 0 59 w)
  have H2 := Lib.hid (show ∀ w, Calls Try.prog 27 #[.int .i64 (-1), .int .i64 0, .int .i64 59] w fun e w' => e = .returned (.bool false) ∧ w' = w from fun w => (H1.out w).mono fun e w' ⟨h, h'⟩ => ⟨h, h'.symm⟩)
  have HO := Lib.hid (show ∀ u ∈ badRow, u.oneCell' = true from ints_one _)
  have HZ := Lib.hid (show (Try.prog.info? 33).map (·.size) = some badRow.length from info_of inf_Row)
  clear hb hc
  go_enter Try.func11, Try.ntmps11
  go_wp2
  go_loopw [7] (fun i wr => i = .int .i64 0 ∧ wr = w) (fun _ _ => 1)
  case atStart => exact ⟨rfl, rfl⟩
  case round =>
    obtain ⟨rfl, rfl⟩ := hrel
    go_wp2_with (first | (refine wpList_load_flat rfl 33 (.tmp 10) rfl _ rfl badRow _ Try.underlying33 rfl HZ.out HC.out ?_) | (refine wpList_store_new rfl 33 (.tmp 4) (.tmp 11) rfl wr (ints [0, 0, 0, 0, 0, 0, 0, 0, 0, 0, 0]) badRow 33 rfl rfl rfl HZ.out HO.out ?_))
    have hnew := heap_alloc_new wr (.cells badRow.toArray 33)
    have c0 : (wr.alloc (.cells badRow.toArray 33)).cell? ⟨wr.heap.size, 0, none⟩ = some (.int .i64 (-1)) := by rw [blk_cell hnew]; rfl
    have hbel : Below wr.heap.size wr (wr.alloc (.cells badRow.toArray 33)) := (Below.refl _ _).alloc (Nat.le_refl _) _
    have HB := Lib.hid hbel
    generalize wr.alloc (.cells badRow.toArray 33) = w1 at *
    clear hnew hbel
    go_wp2
    refine wp_planR 35 [] [some 12, some 13, some 14, some 15, some 16, some 17, some 18, some 19, some 20, some 21, some 22, some 23, some 24, some 25, some 26, some 27, some 28, some 29, some 30, some 31, some 32, some 33, some 34, some 35, some 36, some 37, some 38, some 39, some 40, some 41, some 42, some 43, some 44, some 45, some 46] [[], [0], [0, 1], [0, 1, 2], [0, 1, 2, 3], [0, 1, 2, 3, 4], [0, 1, 2, 3, 4, 5], [0, 1, 2, 3, 4, 5, 6], [0, 1, 2, 3, 4, 5, 6, 7], [0, 1, 2, 3, 4, 5, 6, 7, 8], [0, 1, 2, 3, 4, 5, 6, 7, 8, 9], [0, 1, 2, 3, 4, 5, 6, 7, 8, 9, 10], [0, 1, 2, 3, 4, 5, 6, 7, 8, 9, 10, 11], [0, 1, 2, 3, 4, 5, 6, 7, 8, 9, 10, 11, 12], [0, 1, 2, 3, 4, 5, 6, 7, 8, 9, 10, 11, 12, 13], [0, 1, 2, 3, 4, 5, 6, 7, 8, 9, 10, 11, 12, 13, 14], [0, 1, 2, 3, 4, 5, 6, 7, 8, 9, 10, 11, 12, 13, 14, 15], [0, 1, 2, 3, 4, 5, 6, 7, 8, 9, 10, 11, 12, 13, 14, 15, 16], [0, 1, 2, 3, 4, 5, 6, 7, 8, 9, 10, 11, 12, 13, 14, 15, 16, 17], [0, 1, 2, 3, 4, 5, 6, 7, 8, 9, 10, 11, 12, 13, 14, 15, 16, 17, 18], [0, 1, 2, 3, 4, 5, 6, 7, 8, 9, 10, 11, 12, 13, 14, 15, 16, 17, 18, 19], [0, 1, 2, 3, 4, 5, 6, 7, 8, 9, 10, 11, 12, 13, 14, 15, 16, 17, 18, 19, 20], [0, 1, 2, 3, 4, 5, 6, 7, 8, 9, 10, 11, 12, 13, 14, 15, 16, 17, 18, 19, 20, 21], [0, 1, 2, 3, 4, 5, 6, 7, 8, 9, 10, 11, 12, 13, 14, 15, 16, 17, 18, 19, 20, 21, 22], [0, 1, 2, 3, 4, 5, 6, 7, 8, 9, 10, 11, 12, 13, 14, 15, 16, 17, 18, 19, 20, 21, 22, 23], [0, 1, 2, 3, 4, 5, 6, 7, 8, 9, 10, 11, 12, 13, 14, 15, 16, 17, 18, 19, 20, 21], [0, 1, 2, 3, 4, 5, 6, 7, 8, 9, 10, 11, 12, 13, 14, 15, 16, 17, 18, 19, 20, 21], [0, 1, 2, 3, 4, 5, 6, 7, 8, 9, 10, 11, 12, 13, 14, 15, 16, 17, 18, 19, 20, 21, 26], [0, 1, 2, 3, 4, 5, 6, 7, 8, 9, 10, 11, 12, 13, 14, 15, 16, 17, 18, 19, 20, 21, 25, 26, 27], [0, 1, 2, 3, 4, 5, 6, 7, 8, 9, 10, 11, 12, 13, 14, 15, 16, 17, 18, 19, 20, 21, 25, 26, 27, 28], [0, 1, 2, 3, 4, 5, 6, 7, 8, 9, 10, 11, 12, 13, 14, 15, 16, 17, 18, 19, 20, 21, 25, 26, 27, 28, 29], [0, 1, 2, 3, 4, 5, 6, 7, 8, 9, 10, 11, 12, 13, 14, 15, 16, 17, 18, 19, 20, 21, 25, 26, 27, 28, 29, 30], [0, 1, 2, 3, 4, 5, 6, 7, 8, 9, 10, 11, 12, 13, 14, 15, 16, 17, 18, 19, 20, 21, 22, 23, 24, 25, 26, 27, 28, 29, 30, 31], [0, 1, 2, 3, 4, 5, 6, 7, 8, 9, 10, 11, 12, 13, 14, 15, 16, 17, 18, 19, 20, 21, 22, 23, 24, 25, 26, 27, 28, 29, 30, 31, 32], [0, 1, 2, 3, 4, 5, 6, 7, 8, 9, 10, 11, 12, 13, 14, 15, 16, 17, 18, 19, 20, 21, 22, 23, 24, 25, 26, 27, 28, 29, 30, 31, 32, 33]] [0, 1, 2, 3, 4, 5, 6, 7, 8, 9, 10, 11, 12, 13, 14, 15, 16, 17, 18, 19, 20, 21, 22, 23, 24, 25, 26, 27, 28, 29, 30, 31, 32, 33, 34] mixed rfl (by kernel_rfl) (by decide) (by decide) rfl ?_
    iterate 35 apply Exists.intro
    refine ⟨rfl, ?_, ?_⟩
    · simp only [List.take_succ_cons, List.take_zero, AllFrom.cons_eq, AllFrom.nil_eq, OpGoalQ]
      refine ⟨?_, ?_, ?_, ?_, ?_, ?_, ?_, ?_, ?_, ?_, ?_, ?_, ?_, ?_, ?_, ?_, ?_, ?_, ?_, ?_, ?_, ?_, ?_, ?_, ?_, ?_, ?_, ?_, ?_, ?_, ?_, ?_, ?_, ?_, ?_, trivial⟩
      all_goals (intro σ hp; (try simp only [List.getD_cons_zero, List.getD_cons_succ, List.map_cons, List.map_nil, preF_cons, preF_nil, isV, and_true] at hp); (first | (have hq : True := hp; clear hq hp) | skip))
      · (go_simp; exact ⟨rfl, rfl⟩)
      · (go_simp; exact ⟨rfl, rfl⟩)
      · (go_simp; exact ⟨rfl, rfl⟩)
      · (go_simp; refine (H1.out _).mono ?_; rintro e w4 ⟨rfl, rfl⟩; exact ⟨_, rfl, rfl, rfl⟩)
      · (go_simp; exact ⟨rfl, rfl⟩)
      · (go_simp; exact ⟨rfl, rfl⟩)
      · (go_simp; exact ⟨rfl, rfl⟩)
      · (go_simp; exact ⟨rfl, rfl⟩)
      · (go_simp; exact ⟨rfl, rfl⟩)
      · (go_simp; exact ⟨rfl, rfl⟩)
      · (go_simp; exact ⟨rfl, rfl⟩)
      · (go_simp; exact ⟨rfl, rfl⟩)
      · (go_simp; exact ⟨rfl, rfl⟩)
      · (go_simp; exact ⟨rfl, rfl⟩)
      · (go_simp; exact ⟨rfl, rfl⟩)
      · (go_simp; exact ⟨rfl, rfl⟩)
      · (go_simp; exact ⟨rfl, rfl⟩)
      · (go_simp; exact ⟨rfl, rfl⟩)
      · (go_simp; exact ⟨rfl, rfl⟩)
      · (go_simp; exact ⟨rfl, rfl⟩)
      · (go_simp; exact ⟨rfl, rfl⟩)
      · (go_simp; exact ⟨rfl, rfl⟩)
      · (go_simp; exact ⟨rfl, rfl⟩)
      · (go_simp; exact ⟨rfl, rfl⟩)
      · (go_simp; exact ⟨rfl, rfl⟩)
      · (go_simp; exact ⟨rfl, rfl⟩)
      · (go_simp; exact ⟨rfl, rfl⟩)
      · (go_simp; exact ⟨rfl, rfl⟩)
      · (go_simp; exact ⟨rfl, rfl⟩)
      · (go_simp; exact ⟨rfl, rfl⟩)
      · (go_simp; exact ⟨rfl, rfl⟩)
      · (go_simp; exact ⟨rfl, rfl⟩)
      · (go_simp; exact ⟨rfl, rfl⟩)
      · (go_simp; exact ⟨rfl, rfl⟩)
      · (go_simp; exact ⟨rfl, rfl⟩)
    intro σ hp
    simp only [List.getD_cons_zero, List.getD_cons_succ, List.map_cons, List.map_nil, preF_cons, preF_nil, isV, and_true] at hp
    simp only [List.drop_succ_cons, List.drop_zero]
    go_simp
    clear hp
    refine ⟨rfl, ?_⟩
    go_wp2
    go_ret
    exact ⟨rfl, HB.out.drew⟩

set_option maxRecDepth 100000 in
set_option maxHeartbeats 1000000 in
theorem between_bad (b : Nat) (w : World) (hb : w.heap[b]? = some (.cells badRow.toArray 33 (0, 0))) :
    Calls Try.prog 5 #[.slice (some ⟨b, 0, none⟩) 1 1, .slice none 0 0] w fun e w' => e = .returned (.tuple #[.slice none 0 0, .int .i64 4]) ∧ Below w.heap.size w w' := by
  have H := Lib.hid (may_bad b w hb)
  clear hb
  go_enter Try.func5, Try.ntmps5
  go_wp2_with fail
  refine H.out.mono ?_
  rintro e w1 ⟨rfl, hb1⟩
  have HB := Lib.hid hb1
  clear hb1
  go_wp2
  go_ret2
  exact ⟨rfl, HB.out⟩
end Go.Proofs.Ytfbcdblgfhekpaa
