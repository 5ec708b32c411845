import Derived.WalkKit
import Derived.ChangeKeysEq
import Derived.Test.YtfbcdblgfhekpaaProg
import Derived.Test.YtfbcdblgfhekpaaDiffAppliesJ3
import Derived.Test.YtfbcdblgfhekpaaDiffAppliesJ2
/- '==' and '!=' at structs and arrays of integers and bools. -/
namespace Go.Proofs.Ytfbcdblgfhekpaa
open Go Go.RowKit

section
variable {P : Program}
/-- The piece of a row of cells at which a part of type t lies. -/
def piece (P : Program) (t : TypeId) (cs : List Value) (off : Nat) : List Value := (cs.drop off).take (P.cellsOf t)
/-- '==' at a part of type t, whose cells are as G says, tells whether the cells are the same. -/
def IE (P : Program) (d : Nat) (t : TypeId) (G : List Value → Prop) : Prop :=
  ∀ (w : World) (cs cs' : List Value) (off : Nat), G (piece P t cs off) → G (piece P t cs' off) →
    ∃ a b r, (part t cs.toArray off).run P w = .ok a w ∧ (part t cs'.toArray off).run P w = .ok b w ∧ (Op.equalIn d t a b).run P w = .ok r w ∧ (r = true ↔ piece P t cs off = piece P t cs' off)
/-- The same of a whole struct or array. -/
def ES (P : Program) (d : Nat) (t : TypeId) (G : List Value → Prop) : Prop :=
  ∀ (w : World) (cs cs' : List Value), G cs → G cs' → ∃ r, (Op.equalIn d t (.agg cs.toArray) (.agg cs'.toArray)).run P w = .ok r w ∧ (r = true ↔ cs = cs')

def GInt (cs : List Value) : Prop := ∃ z, cs = [.int .i64 z]
def GBool (cs : List Value) : Prop := ∃ b, cs = [.bool b]
def GInts (n : Nat) (cs : List Value) : Prop := ∃ zs : List Int, cs = ints zs ∧ zs.length = n

theorem part_one {t : TypeId} {d : TypeDesc} (ht : P.underlying t = some d) (hd : (match d with | .struct _ | .array _ _ => true | _ => false) = false) {cs : List Value} {off n : Nat} {v : Value} (h : (cs.drop off).take n = [v]) (w : World) :
    (part t cs.toArray off).run P w = .ok v w := by
  have hv : cs[off]? = some v := by
    have : ((cs.drop off).take n)[0]? = some v := by rw [h]; rfl
    rw [List.getElem?_take, List.getElem?_drop] at this
    split at this
    · simpa using this
    · cases this
  unfold part isAgg
  cases d <;> simp_all [Sem.run_bind, run_underlying ht]

theorem IE.int {d : Nat} {t : TypeId} {k : IntKind} (ht : P.underlying t = some (.int k)) : IE P (d + 1) t GInt := by
  intro w cs cs' off ⟨z, h⟩ ⟨z', h'⟩
  refine ⟨_, _, z == z', part_one ht rfl h w, part_one ht rfl h' w, by simp [Op.equalIn, run_underlying ht], ?_⟩
  rw [h, h']; simp
theorem IE.bool {d : Nat} {t : TypeId} (ht : P.underlying t = some .bool) : IE P (d + 1) t GBool := by
  intro w cs cs' off ⟨z, h⟩ ⟨z', h'⟩
  refine ⟨_, _, z == z', part_one ht rfl h w, part_one ht rfl h' w, by simp [Op.equalIn, run_underlying ht], ?_⟩
  rw [h, h']; simp
theorem IE.mono {d : Nat} {t : TypeId} {G G' : List Value → Prop} (h : IE P d t G) (hg : ∀ cs, G' cs → G cs) : IE P d t G' :=
  fun w cs cs' off h1 h2 => h w cs cs' off (hg _ h1) (hg _ h2)
theorem ES.part {d : Nat} {t : TypeId} {i : TypeInfo} {td : TypeDesc} {G : List Value → Prop} (h : ES P d t G) (ht : P.underlying t = some td) (hd : (match td with | .struct _ | .array _ _ => true | _ => false) = true) (hi : P.info? t = some i) : IE P d t G := by
  intro w cs cs' off h1 h2
  obtain ⟨r, hr, hiff⟩ := h w _ _ h1 h2
  have key : ∀ cs : List Value, (Go.part t cs.toArray off).run P w = .ok (.agg (piece P t cs off).toArray) w := by
    intro cs
    have ha : (isAgg t).run P w = .ok true w := by unfold isAgg; cases td <;> simp_all [Sem.run_bind, run_underlying ht]
    have he : cs.toArray.extract off (off + P.cellsOf t) = (piece P t cs off).toArray := by
      unfold piece
      apply Array.ext'
      simp [List.extract_eq_take_drop]
    unfold Go.part
    simp only [Sem.run_bind, ha, Result.andThen_ok, if_true, run_sizeOf w hi, he]
    rfl
  exact ⟨_, _, r, key cs, key cs', hr, hiff⟩

/-- The fields lie one behind the other from o to n. -/
def contig (P : Program) : List Field → Nat → Nat → Bool
  | [], o, n => o == n
  | f :: fs, o, n => (f.name != "_") && f.offset == o && contig P fs (o + P.cellsOf f.type) n

theorem drop_eq_iff (a b : List Value) (o m : Nat) : a.drop o = b.drop o ↔ (a.drop o).take m = (b.drop o).take m ∧ a.drop (o + m) = b.drop (o + m) := by
  constructor
  · intro h
    have e : ∀ c : List Value, c.drop (o + m) = (c.drop o).drop m := fun c => by rw [List.drop_drop]
    rw [e, e, h]
    exact ⟨rfl, rfl⟩
  · rintro ⟨h1, h2⟩
    have e : ∀ c : List Value, c.drop (o + m) = (c.drop o).drop m := fun c => by rw [List.drop_drop]
    rw [e, e] at h2
    rw [← List.take_append_drop m (a.drop o), ← List.take_append_drop m (b.drop o), h1, h2]

theorem eqFields_run {d : Nat} {Gs : List (List Value → Prop)} (w : World) (cs cs' : List Value) (n : Nat) (hl : cs.length = n) (hl' : cs'.length = n) : ∀ (fs : List Field) (o : Nat), contig P fs o n = true →
    (∀ f ∈ fs, ∃ G, IE P d f.type G ∧ G (piece P f.type cs f.offset) ∧ G (piece P f.type cs' f.offset)) →
    ∃ r, (Op.eqFields d cs.toArray cs'.toArray fs).run P w = .ok r w ∧ (r = true ↔ cs.drop o = cs'.drop o)
  | [], o, h, _ => by
    have : o = n := by simpa [contig] using h
    subst this
    exact ⟨true, by simp [Op.eqFields], by simp [List.drop_of_length_le, hl, hl']⟩
  | f :: fs, o, h, hG => by
    simp only [contig, Bool.and_eq_true, bne_iff_ne, beq_iff_eq] at h
    obtain ⟨⟨hn, ho⟩, hc⟩ := h
    obtain ⟨G, hI, g1, g2⟩ := hG f (by simp)
    obtain ⟨a, b, r, p1, p2, p3, hiff⟩ := hI w cs cs' f.offset g1 g2
    obtain ⟨r', hr', hiff'⟩ := eqFields_run (Gs := Gs) w cs cs' n hl hl' fs _ hc (fun g hg => hG g (by simp [hg]))
    simp only [Op.eqFields, hn, ne_eq, not_false_eq_true, if_true, Sem.run_bind, p1, p2, p3, Result.andThen_ok]
    rw [drop_eq_iff cs cs' o (P.cellsOf f.type)]
    rw [ho] at hiff
    unfold piece at hiff
    cases r
    · exact ⟨false, by simp, by simp; intro e; exact absurd (hiff.2 e) (by simp)⟩
    · refine ⟨r', by simpa using hr', ?_⟩
      rw [hiff']
      exact ⟨fun h => ⟨hiff.1 rfl, h⟩, fun h => h.2⟩

theorem ES.struct {d : Nat} {t : TypeId} {G : List Value → Prop} (ht : P.underlying t = some (.struct (P.fieldsOf t))) (hp : P.stoodInHeld t = false) (n : Nat) (hc : contig P (P.fieldsOf t).toList 0 n = true)
    (hG : ∀ cs, G cs → cs.length = n) (hf : ∀ f ∈ (P.fieldsOf t).toList, ∃ G', IE P d f.type G' ∧ ∀ cs, G cs → G' (piece P f.type cs f.offset)) : ES P (d + 1) t G := by
  intro w cs cs' h1 h2
  rw [run_equalIn_struct w d t _ _ ht hp]
  have := eqFields_run (d := d) (Gs := []) w cs cs' n (hG _ h1) (hG _ h2) (P.fieldsOf t).toList 0 hc (fun f hfm => by
    obtain ⟨G', a, b⟩ := hf f hfm
    exact ⟨G', a, b _ h1, b _ h2⟩)
  simpa using this

theorem eqItems_run {d : Nat} {e : TypeId} {G : List Value → Prop} (hI : IE P d e G) (w : World) (cs cs' : List Value) (n : Nat) (hl : cs.length = n * P.cellsOf e) (hl' : cs'.length = n * P.cellsOf e) : ∀ (m o : Nat), o + m = n →
    (∀ i, i < n → G (piece P e cs (i * P.cellsOf e)) ∧ G (piece P e cs' (i * P.cellsOf e))) →
    ∃ r, (Op.eqItems d e (P.cellsOf e) cs.toArray cs'.toArray (List.range' o m)).run P w = .ok r w ∧ (r = true ↔ cs.drop (o * P.cellsOf e) = cs'.drop (o * P.cellsOf e))
  | 0, o, ho, _ => by
    have : o = n := by omega
    subst this
    exact ⟨true, by simp [Op.eqItems], by simp [List.drop_of_length_le, hl, hl']⟩
  | m + 1, o, ho, hG => by
    obtain ⟨g1, g2⟩ := hG o (by omega)
    obtain ⟨a, b, r, p1, p2, p3, hiff⟩ := hI w cs cs' (o * P.cellsOf e) g1 g2
    obtain ⟨r', hr', hiff'⟩ := eqItems_run hI w cs cs' n hl hl' m (o + 1) (by omega) hG
    simp only [List.range'_succ, Op.eqItems, Sem.run_bind, p1, p2, p3, Result.andThen_ok]
    rw [drop_eq_iff cs cs' (o * P.cellsOf e) (P.cellsOf e)]
    rw [Nat.succ_mul] at hiff'
    unfold piece at hiff
    cases r
    · exact ⟨false, by simp, by simp; intro e; exact absurd (hiff.2 e) (by simp)⟩
    · refine ⟨r', by simpa using hr', ?_⟩
      rw [hiff']
      exact ⟨fun h => ⟨hiff.1 rfl, h⟩, fun h => h.2⟩
theorem ES.array {d : Nat} {t e : TypeId} {n : Nat} {i : TypeInfo} {G G' : List Value → Prop} (ht : P.underlying t = some (.array n e)) (hi : P.info? e = some i) (hI : IE P d e G') (hG : ∀ cs, G cs → cs.length = n * P.cellsOf e ∧ ∀ i, i < n → G' (piece P e cs (i * P.cellsOf e))) : ES P (d + 1) t G := by
  intro w cs cs' h1 h2
  rw [run_equalIn_array w d _ _ ht hi, List.range_eq_range']
  have := eqItems_run hI w cs cs' n (hG _ h1).1 (hG _ h2).1 n 0 (by omega) (fun i hi => ⟨(hG _ h1).2 i hi, (hG _ h2).2 i hi⟩)
  simpa using this

theorem gInts_piece {t : TypeId} {n off : Nat} {cs : List Value} (h : GInts n cs) (hle : off + P.cellsOf t ≤ n) : GInts (P.cellsOf t) (piece P t cs off) := by
  obtain ⟨zs, rfl, hl⟩ := h
  refine ⟨(zs.drop off).take (P.cellsOf t), ?_, by rw [List.length_take, List.length_drop]; omega⟩
  unfold piece ints
  rw [List.map_take, List.map_drop]
theorem gInts_one {cs : List Value} (h : GInts 1 cs) : GInt cs := by
  obtain ⟨zs, rfl, hl⟩ := h
  match zs, hl with
  | [z], _ => exact ⟨z, rfl⟩
theorem IE.ints1 {d : Nat} {t : TypeId} {k : IntKind} (ht : P.underlying t = some (.int k)) : IE P (d + 1) t (GInts 1) := (IE.int ht).mono fun _ => gInts_one
/-- A struct whose fields are all of integers. -/
theorem ES.flat {d : Nat} {t : TypeId} (ht : P.underlying t = some (.struct (P.fieldsOf t))) (hp : P.stoodInHeld t = false) (n : Nat) (hc : contig P (P.fieldsOf t).toList 0 n = true)
    (hle : ((P.fieldsOf t).toList.all fun f => decide (f.offset + P.cellsOf f.type ≤ n)) = true)
    (hf : ∀ f ∈ (P.fieldsOf t).toList, IE P d f.type (GInts (P.cellsOf f.type))) : ES P (d + 1) t (GInts n) := by
  refine ES.struct ht hp n hc (fun cs h => ?_) (fun f hfm => ⟨_, hf f hfm, fun cs h => gInts_piece h ?_⟩)
  · obtain ⟨zs, rfl, hl⟩ := h; rw [ints_length]; exact hl
  · simpa using List.all_eq_true.1 hle f hfm
theorem ES.intArr {d : Nat} {t e : TypeId} {n : Nat} {i : TypeInfo} {k : IntKind} (ht : P.underlying t = some (.array n e)) (hi : P.info? e = some i) (he : P.underlying e = some (.int k)) (h1 : P.cellsOf e = 1) : ES P (d + 2) t (GInts n) := by
  refine ES.array ht hi ((IE.int he).mono (fun _ => id)) (fun cs h => ⟨?_, fun j hj => gInts_one ?_⟩)
  · obtain ⟨zs, rfl, hl⟩ := h; rw [ints_length, h1]; omega
  · have := gInts_piece (P := P) (t := e) (off := j * P.cellsOf e) h (by rw [h1]; omega)
    rwa [h1] at this ⊢

theorem ints_inj {a b : List Int} : ints a = ints b ↔ a = b := by
  constructor
  · intro h
    unfold ints at h
    exact List.map_inj_right (fun x y h => by cases h; rfl) |>.1 h
  · rintro rfl; rfl
/-- At integers, and told as lists of these. -/
theorem ES.eqlI {t : TypeId} {n : Nat} (h : ES P 10000 t (GInts n)) (w : World) (a b : List Int) (ha : a.length = n) (hb : b.length = n) {x y : Array Value} (hx : x = (ints a).toArray) (hy : y = (ints b).toArray) :
    (binOp .eql t (.agg x) (.agg y)).run P w = .ok (.bool (eqB a b)) w := by
  subst hx; subst hy
  obtain ⟨r, hr, hiff⟩ := h w (ints a) (ints b) ⟨a, rfl, ha⟩ ⟨b, rfl, hb⟩
  rw [run_eql_struct, hr]
  have : r = eqB a b := by rw [Bool.eq_iff_iff, hiff, ints_inj]; simp [eqB]
  simp [this]
theorem ES.neqI {t : TypeId} {n : Nat} (h : ES P 10000 t (GInts n)) (w : World) (a b : List Int) (ha : a.length = n) (hb : b.length = n) {x y : Array Value} (hx : x = (ints a).toArray) (hy : y = (ints b).toArray) :
    (binOp .neq t (.agg x) (.agg y)).run P w = .ok (.bool (!eqB a b)) w := by
  subst hx; subst hy
  obtain ⟨r, hr, hiff⟩ := h w (ints a) (ints b) ⟨a, rfl, ha⟩ ⟨b, rfl, hb⟩
  rw [run_neq_struct, hr]
  have : r = eqB a b := by rw [Bool.eq_iff_iff, hiff, ints_inj]; simp [eqB]
  simp [this]
end

theorem ieInt (d : Nat) : IE Try.prog (d + 1) 3 (GInts (Try.prog.cellsOf 3)) := by
  rw [show Try.prog.cellsOf 3 = 1 by kernel_rfl]; exact IE.ints1 Try.underlying3
theorem esHandle (d : Nat) : ES Try.prog (d + 2) 28 (GInts 2) := by
  refine ES.flat (by kernel_rfl) (by kernel_rfl) 2 (by kernel_rfl) (by kernel_rfl) ?_
  intro f hf
  simp only [Program.fieldsOf, Try.underlying28, List.mem_cons, List.not_mem_nil, or_false] at hf
  rcases hf with rfl | rfl <;> exact ieInt d
theorem esArr (d : Nat) : ES Try.prog (d + 2) 29 (GInts 8) := by
  obtain ⟨i, hi⟩ := Option.isSome_iff_exists.1 (show (Try.prog.info? 3).isSome = true by kernel_rfl)
  exact ES.intArr Try.underlying29 hi Try.underlying3 (by kernel_rfl)
theorem esBeast (d : Nat) : ES Try.prog (d + 3) 31 (GInts 9) := by
  refine ES.flat (by kernel_rfl) (by kernel_rfl) 9 (by kernel_rfl) (by kernel_rfl) ?_
  intro f hf
  simp only [Program.fieldsOf, Try.underlying31, List.mem_cons, List.not_mem_nil, or_false] at hf
  rcases hf with rfl | rfl
  · exact ieInt (d + 1)
  · show IE Try.prog (d + 2) 29 (GInts (Try.prog.cellsOf 29))
    rw [show Try.prog.cellsOf 29 = 8 by kernel_rfl]
    obtain ⟨i, hi⟩ := Option.isSome_iff_exists.1 (show (Try.prog.info? 29).isSome = true by kernel_rfl)
    exact (esArr d).part Try.underlying29 rfl hi
theorem eqlHandle (w : World) (a b c d : Int) : (binOp .eql 28 (.agg #[.int .i64 a, .int .i64 b]) (.agg #[.int .i64 c, .int .i64 d])).run Try.prog w = .ok (.bool (eqB (a, b) (c, d))) w := by
  have h := (esHandle 9998).eqlI w [a, b] [c, d] rfl rfl (x := #[.int .i64 a, .int .i64 b]) (y := #[.int .i64 c, .int .i64 d]) rfl rfl
  refine h.trans ?_
  have e : eqB [a, b] [c, d] = eqB (a, b) (c, d) := by simp [eqB]
  rw [e]
end Go.Proofs.Ytfbcdblgfhekpaa

/- Slots as plain lists: of each its generation, and whether somebody is there. -/
namespace Go.Proofs.Ytfbcdblgfhekpaa
open Go

abbrev Sl := List (Int × Bool)
def freeB (x : Int × Bool) : Bool := !x.2 && decide (x.1 < 1000000)
theorem fi_lt {α : Type} {p : α → Bool} {l : List α} {k : Nat} (h : l.findIdx? p = some k) : ∃ hk : k < l.length, p l[k] = true := by
  rw [List.findIdx?_eq_some_iff_getElem] at h
  exact ⟨h.1, h.2.1⟩
/-- The slots behind a take. -/
def takeL (l : Sl) : Sl := match l.findIdx? freeB with
  | some k => l.set k ((l.getD k (0, false)).1, true)
  | none => if l.length = 60 then l else l ++ [(0, true)]
/-- The handles of those that are there, from slot k on. -/
def allFrom : Nat → Sl → List (Int × Int)
  | _, [] => []
  | k, x :: l => (if x.2 = true then [((k : Int), x.1)] else []) ++ allFrom (k + 1) l
def allS (l : Sl) : List (Int × Int) := allFrom 0 l
theorem mem_allFrom (l : Sl) (k : Nat) (s g : Int) : (s, g) ∈ allFrom k l ↔ ∃ j : Nat, s = ((k + j : Nat) : Int) ∧ ∃ h : j < l.length, l[j].2 = true ∧ l[j].1 = g := by
  induction l generalizing k with
  | nil => simp [allFrom]
  | cons x l ih =>
    rw [allFrom, List.mem_append, ih]
    constructor
    · rintro (h | ⟨j, h1, h2, h3⟩)
      · split at h
        · rename_i hx
          simp only [List.mem_singleton, Prod.mk.injEq] at h
          exact ⟨0, by simpa using h.1, by simp, by simpa using hx, by simpa using h.2.symm⟩
        · simp at h
      · exact ⟨j + 1, by rw [h1]; omega, by simpa using h2, by simpa using h3⟩
    · rintro ⟨j, h1, h2, h3⟩
      cases j with
      | zero =>
        left
        simp only [List.getElem_cons_zero] at h3
        rw [if_pos h3.1]
        simp only [List.mem_singleton, Prod.mk.injEq]
        exact ⟨by simpa using h1, h3.2.symm⟩
      | succ j =>
        right
        exact ⟨j, by rw [h1]; omega, by simpa using h2, by simpa using h3⟩
theorem allFrom_len (l : Sl) (k : Nat) : (allFrom k l).length ≤ l.length := by
  induction l generalizing k with
  | nil => simp [allFrom]
  | cons x l ih =>
    have := ih (k + 1)
    simp only [allFrom, List.length_append, List.length_cons]
    split
    · simp only [List.length_cons, List.length_nil]; omega
    · simp only [List.length_nil]; omega
theorem allS_len (l : Sl) : (allS l).length ≤ l.length := allFrom_len l 0

/-- What slots may be. -/
def SlOk (l : Sl) : Prop := l.length ≤ 60 ∧ ∀ x ∈ l, 0 ≤ x.1 ∧ x.1 ≤ 1000000 ∧ (x.2 = true → x.1 < 1000000)
theorem SlOk.at_ {l : Sl} (h : SlOk l) {k : Nat} (hk : k < l.length) : 0 ≤ l[k].1 ∧ l[k].1 ≤ 1000000 ∧ (l[k].2 = true → l[k].1 < 1000000) := h.2 _ (List.getElem_mem hk)
theorem SlOk.take {l : Sl} (h : SlOk l) : SlOk (takeL l) := by
  unfold takeL
  cases hf : l.findIdx? freeB with
  | some k =>
    obtain ⟨hk, hp⟩ := fi_lt hf
    refine ⟨by simpa using h.1, fun x hx => ?_⟩
    rcases List.mem_or_eq_of_mem_set hx with hx | rfl
    · exact h.2 x hx
    · have := h.at_ hk
      simp only [freeB, Bool.and_eq_true, decide_eq_true_eq] at hp
      rw [List.getD_eq_getElem?_getD, List.getElem?_eq_getElem hk]
      simp only [Option.getD_some]
      exact ⟨this.1, this.2.1, fun _ => hp.2⟩
  | none =>
    simp only
    split
    · exact h
    · next hn =>
      refine ⟨by have := h.1; simp; omega, fun x hx => ?_⟩
      rcases List.mem_append.1 hx with hx | hx
      · exact h.2 x hx
      · simp at hx; subst hx; exact ⟨by omega, by omega, fun _ => by omega⟩
end Go.Proofs.Ytfbcdblgfhekpaa

/- A region whose operations may be carried out in any order that its edges allow, and whose values need not be known ahead: one goal for each operation, none for the orders. -/
namespace Go.Proofs.Ytfbcdblgfhekpaa
open Go

/-- A call returns some value, and J holds of it and of the world behind it. -/
def RetR (J : Value → World → Prop) (e : Ending) (w : World) : Prop := ∃ u, e = .returned u ∧ J u w
/-- Operation o, at the operands' values ρ and in the world w, gives some v, and J holds of v and of the world behind it. -/
def YieldsR (P : Program) (o : Oper) (ρ : Operand → Value) (w : World) (J : Value → World → Prop) : Prop :=
  match (execOp ρ o).run P w with
  | .ok (.value u) w' => J u w'
  | .ok .skip w' => J undef w'
  | .ok (.enter f args) w' => Calls P f args w' (RetR J)
  | _ => False

theorem YieldsR.wp {P : Program} {o : Oper} {a : Act} {w : World} {J : Value → World → Prop} {K : Act → World → Prop} {Q : Exit → Act → World → Prop}
    (h : YieldsR P o a.eval w J) (hK : ∀ v w', J v w' → K (a.put o.dst v) w') : o.wp P a w K Q := by
  unfold Oper.wp
  unfold YieldsR at h
  cases hr : (execOp a.eval o).run P w with
  | halt x w' => rw [hr] at h; exact h.elim
  | ok n w' =>
    rw [hr] at h
    cases n with
    | value u => exact hK _ _ h
    | skip => exact hK _ _ h
    | enter f args =>
      refine Calls.mono h fun e w'' he => ?_
      obtain ⟨u, rfl, hj⟩ := he
      exact hK _ _ hj
    | _ => exact h.elim

theorem YieldsR.congr {P : Program} {o : Oper} {ρ ρ' : Operand → Value} {w : World} {J : Value → World → Prop}
    (h : YieldsR P o ρ w J) (he : execOp ρ' o = execOp ρ o) : YieldsR P o ρ' w J := by
  unfold YieldsR at *
  rw [he]; exact h

theorem YieldsR.mono {P : Program} {o : Oper} {ρ : Operand → Value} {w : World} {J J' : Value → World → Prop}
    (h : YieldsR P o ρ w J) (hj : ∀ v w', J v w' → J' v w') : YieldsR P o ρ w J' := by
  unfold YieldsR at *
  split at h
  · exact hj _ _ h
  · exact hj _ _ h
  · refine h.mono fun e w'' he => ?_
    obtain ⟨u, rfl, hu⟩ := he
    exact ⟨u, rfl, hj _ _ hu⟩
  · exact h.elim

/-- The values, with one written. -/
def updv (σ : Nat → Value) (i : Nat) (v : Value) : Nat → Value := fun j => if j = i then v else σ j

theorem AtPlan.putv {ops : Array Oper} {σ : Nat → Value} {a0 a : Act} {L : Nat → Bool} (h : AtPlan ops σ a0 a L) {i : Nat} {o : Oper} (ho : ops[i]? = some o)
    (hd : ∀ j o' t, ops[j]? = some o' → o'.dst = some t → o.dst = some t → i = j) (hl : L i = false) {v : Value} : AtPlan ops (updv σ i v) a0 (a.put o.dst v) (upd L i) := by
  have h1 : AtPlan ops (updv σ i v) a0 a L := ⟨h.defers, h.size, fun j o' t h1 h2 h3 h4 => by
    have hne : j ≠ i := fun e => by rw [e, hl] at h3; cases h3
    rw [updv, if_neg hne]; exact h.new j o' t h1 h2 h3 h4, h.old⟩
  have h2 := h1.put ho hd
  rw [show updv σ i v i = v by simp [updv]] at h2
  exact h2

section
variable {P : Program} {ops : Array Oper} {Q : Exit → Act → World → Prop}

/-- The goal at operation i. -/
def OpGoalG (P : Program) (ops : Array Oper) (pre : List (List Nat)) (I : (Nat → Bool) → (Nat → Value) → World → Prop) (a0 : Act) (i : Nat) (o : Oper) : Prop :=
  ∀ (L : Nat → Bool) (σ : Nat → Value) (w : World), L i = false → (∀ j ∈ pre.getD i [], L j = true) → (∀ k, i ∈ pre.getD k [] → L k = false) → I L σ w →
    if Region.wanted o (yielded ops (seesOf ops σ pre a0 i).tmps) = true then YieldsR P o (seesOf ops σ pre a0 i).eval w (fun v w' => I (upd L i) (updv σ i v) w')
    else I (upd L i) (updv σ i undef) w

end

/-- The slots in which the operations numbered in the list have left their values. -/
def putF (dsts : List (Option Tmp)) (σ : Nat → Value) : List Nat → Act → Act
  | [], a => a
  | j :: l, a => putF dsts σ l (a.put (dsts.getD j none) (σ j))

theorem putAll_eq_putF {l : List Oper} {dsts : List (Option Tmp)} {σ : Nat → Value} (hd : l.map (·.dst) = dsts) : ∀ (is : List Nat), (∀ i ∈ is, i < l.length) → ∀ (a : Act),
    putAll l.toArray σ is a = putF dsts σ is a := by
  intro is
  induction is with
  | nil => intro _ a; rfl
  | cons j is ih =>
    intro hi a
    have h : (match l.toArray[j]? with | some o => a.put o.dst (σ j) | none => a) = a.put (dsts.getD j none) (σ j) := by
      subst hd
      rw [List.getElem?_toArray]
      cases hj : l[j]? with
      | none => simp [hj, Act.put]
      | some o => simp [hj]
    rw [putAll, putF, ← h]
    exact ih (fun i h => hi i (by simp [h])) _

/-- What is known of a value that is told. -/
def isV (c : Value) : Value → World → Prop := fun v _ => v = c
/-- What is known of the values that the operations numbered in the list have left. -/
def PreF (VP : List (Value → World → Prop)) (σ : Nat → Value) (w : World) : List Nat → Prop
  | [] => True
  | j :: l => VP.getD j (fun _ _ => True) (σ j) w ∧ PreF VP σ w l
/-- What is known of a value stays so while the world turns as T says. -/
def Stab (T : World → World → Prop) (p : Value → World → Prop) : Prop := ∀ v w w', T w w' → p v w → p v w'
def AllStab (T : World → World → Prop) : List (Value → World → Prop) → Prop
  | [] => True
  | p :: l => Stab T p ∧ AllStab T l
theorem AllStab.get {T : World → World → Prop} : ∀ {VP : List (Value → World → Prop)}, AllStab T VP → ∀ i, Stab T (VP.getD i (fun _ _ => True))
  | [], _, i => by intro v w w' _ _; simp
  | p :: l, h, 0 => by simpa using h.1
  | p :: l, h, i + 1 => by simpa using h.2.get i
theorem preF_of {VP : List (Value → World → Prop)} {σ : Nat → Value} {w : World} : ∀ {is : List Nat}, (∀ j ∈ is, VP.getD j (fun _ _ => True) (σ j) w) → PreF VP σ w is
  | [], _ => trivial
  | j :: l, h => ⟨h j (by simp), preF_of fun i hi => h i (by simp [hi])⟩

/-- What is owed of an operation's value and of the world behind it. -/
structure Post (p : Value → World → Prop) (I : World → Prop) (T : World → World → Prop) (w : World) (v : Value) (w' : World) : Prop where
  val : p v w'
  inv : I w'
  step : T w w'
/-- The goal at one operation. -/
def OpGoalT (P : Program) (dsts : List (Option Tmp)) (pre : List (List Nat)) (VP : List (Value → World → Prop)) (T : World → World → Prop) (I : (Nat → Bool) → World → Prop) (a0 : Act) (i : Nat) (o : Oper) : Prop :=
  ∀ (L : Nat → Bool) (σ : Nat → Value) (w : World), L i = false → (∀ j ∈ pre.getD i [], L j = true) → (∀ k, i ∈ pre.getD k [] → L k = false) → I L w → PreF VP σ w (pre.getD i []) →
    if wantedL dsts (putF dsts σ (pre.getD i []) a0) o.guard = true then YieldsR P o (putF dsts σ (pre.getD i []) a0).eval w (Post (VP.getD i (fun _ _ => True)) (I (upd L i)) T w)
    else Post (VP.getD i (fun _ _ => True)) (I (upd L i)) T w undef w

theorem planOk_lt {ops : Array Oper} {pre : List (List Nat)} (h : planOk ops pre = true) {i j : Nat} (hi : i < ops.size) (hj : j ∈ pre.getD i []) : j < i :=
  ((planOk_spec h (Array.getElem?_eq_getElem hi)).2.2.1 j hj).1

/-- There are n values of which p holds. -/
def ExL : Nat → (List Value → Prop) → Prop
  | 0, p => p []
  | n + 1, p => ∃ v, ExL n fun l => p (v :: l)
theorem ExL.out : ∀ {n : Nat} {p : List Value → Prop}, ExL n p → ∃ vs, p vs
  | 0, _, h => ⟨[], h⟩
  | n + 1, p, h => by
    obtain ⟨v, h⟩ := h
    obtain ⟨vs, h⟩ := ExL.out h
    exact ⟨v :: vs, h⟩
/-- What is known of the values so far stays so. -/
def KeepAll (σ : Nat → Value) (L : Nat → Bool) (w w' : World) : Nat → List (Value → World → Prop) → Prop
  | _, [] => True
  | k, p :: l => (L k = true → p (σ k) w → p (σ k) w') ∧ KeepAll σ L w w' (k + 1) l
theorem KeepAll.get {σ : Nat → Value} {L : Nat → Bool} {w w' : World} : ∀ {VP : List (Value → World → Prop)} {k : Nat}, KeepAll σ L w w' k VP → ∀ i, L (k + i) = true → VP.getD i (fun _ _ => True) (σ (k + i)) w → VP.getD i (fun _ _ => True) (σ (k + i)) w'
  | [], _, _, i, _, _ => by simp
  | p :: l, k, h, 0, h1, h2 => by simpa using h.1 h1 (by simpa using h2)
  | p :: l, k, h, i + 1, h1, h2 => by
    have := KeepAll.get h.2 i (by rw [show k + 1 + i = k + (i + 1) by omega]; exact h1) (by rw [show k + 1 + i = k + (i + 1) by omega]; simpa using h2)
    rw [show k + 1 + i = k + (i + 1) by omega] at this
    simpa using this
theorem KeepAll.refl {σ : Nat → Value} {L : Nat → Bool} {w : World} : ∀ {VP : List (Value → World → Prop)} {k : Nat}, KeepAll σ L w w k VP
  | [], _ => trivial
  | _ :: _, _ => ⟨fun _ h => h, KeepAll.refl⟩
structure PostP (p : Value → World → Prop) (I K : World → Prop) (v : Value) (w : World) : Prop where
  val : p v w
  inv : I w
  keep : K w
def OpGoalP (P : Program) (dsts : List (Option Tmp)) (pre : List (List Nat)) (VP : List (Value → World → Prop)) (I : (Nat → Bool) → World → Prop) (a0 : Act) (i : Nat) (o : Oper) : Prop :=
  ∀ (L : Nat → Bool) (σ : Nat → Value) (w : World), L i = false → (∀ j ∈ pre.getD i [], L j = true) → (∀ k, i ∈ pre.getD k [] → L k = false) → I L w → PreF VP σ w (pre.getD i []) →
    if wantedL dsts (putF dsts σ (pre.getD i []) a0) o.guard = true then YieldsR P o (putF dsts σ (pre.getD i []) a0).eval w (PostP (VP.getD i (fun _ _ => True)) (I (upd L i)) (fun w' => KeepAll σ L w w' 0 VP))
    else PostP (VP.getD i (fun _ _ => True)) (I (upd L i)) (fun w' => KeepAll σ L w w' 0 VP) undef w
/-- What is owed of an operation's value, and the world behind it. -/
structure PostS (v0 : Value) (w0 : World) (v : Value) (w : World) : Prop where
  val : v = v0
  world : w = w0
def OpGoalS (P : Program) (dsts : List (Option Tmp)) (pre : List (List Nat)) (vs : List Value) (a b : World) (n : Nat) (a0 : Act) (i : Nat) (o : Oper) : Prop :=
  ∀ (σ : Nat → Value), PreF (vs.map isV) σ a (pre.getD i []) →
    if wantedL dsts (putF dsts σ (pre.getD i []) a0) o.guard = true then YieldsR P o (putF dsts σ (pre.getD i []) a0).eval a (PostS (vs.getD i undef) (if (i == n) = true then b else a))
    else PostS (vs.getD i undef) (if (i == n) = true then b else a) undef a
/-- The world has but grown. -/
def Grow (w w' : World) : Prop := RowKit.Below w.heap.size w w'
theorem Grow.refl (w : World) : Grow w w := RowKit.Below.refl _ _
theorem putF_nil (dsts : List (Option Tmp)) (σ : Nat → Value) (a : Act) : putF dsts σ [] a = a := rfl
theorem putF_cons (dsts : List (Option Tmp)) (σ : Nat → Value) (j : Nat) (l : List Nat) (a : Act) : putF dsts σ (j :: l) a = putF dsts σ l (a.put (dsts.getD j none) (σ j)) := rfl
theorem preF_nil (VP : List (Value → World → Prop)) (σ : Nat → Value) (w : World) : PreF VP σ w [] = True := rfl
theorem preF_cons (VP : List (Value → World → Prop)) (σ : Nat → Value) (w : World) (j : Nat) (l : List Nat) : PreF VP σ w (j :: l) = (VP.getD j (fun _ _ => True) (σ j) w ∧ PreF VP σ w l) := rfl
end Go.Proofs.Ytfbcdblgfhekpaa
