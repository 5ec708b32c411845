import Derived.Test.YtehjfmjibiafdaaGreatZooAllsJ0
import Derived.ChangeKeysEq
import Derived.Test.YtehjfmjibiafdaaGreatZooAllsJ2
/- A part of the proof that the law ZooAlls returns true for every input. -/
namespace Go.Proofs.YtehjfmjibiafdaaGreat
open Go Go.RowKit
section
variable {P : Program}
def piece (P : Program) (t : TypeId) (cs : List Value) (off : Nat) : List Value := (cs.drop off).take (P.cellsOf t)
def IE (P : Program) (d : Nat) (t : TypeId) (G : List Value → Prop) : Prop :=
 ∀ (w : World) (cs cs' : List Value) (off : Nat), G (piece P t cs off) → G (piece P t cs' off) →
  ∃ a b r, (part t cs.toArray off).run P w = .ok a w ∧ (part t cs'.toArray off).run P w = .ok b w ∧ (Op.equalIn d t a b).run P w = .ok r w ∧ (r = true ↔ piece P t cs off = piece P t cs' off)
def ES (P : Program) (d : Nat) (t : TypeId) (G : List Value → Prop) : Prop :=
 ∀ (w : World) (cs cs' : List Value), G cs → G cs' → ∃ r, (Op.equalIn d t (.agg cs.toArray) (.agg cs'.toArray)).run P w = .ok r w ∧ (r = true ↔ cs = cs')
def GInt (cs : List Value) : Prop := ∃ z, cs = [.int .i64 z]
def GBool (cs : List Value) : Prop := ∃ b, cs = [.bool b]
def GInts (n : Nat) (cs : List Value) : Prop := ∃ zs : List Int, cs = ints zs ∧ zs.length = n
theorem part_one {t : TypeId} {d : TypeDesc} (ht : P.underlying t = some d) (hd : (match d with | .struct _ | .array _ _ => true | _ => false) = false) {cs : List Value} {off n : Nat} {v : Value} (h : (cs.drop off).take n = [v]) (w : World) :
  (part t cs.toArray off).run P w = .ok v w := by
 have hv : cs[off]? = some v := by
  have : ((cs.drop off).take n)[0]? = some v := by rw [h]; rfl
  rw [List.getElem?_take, List.getElem?_drop] at this
  split at this
  ·simpa using this
  ·cases this
 unfold part isAgg
 cases d <;> simp_all [Sem.run_bind, run_underlying ht]
theorem IE.int {d : Nat} {t : TypeId} {k : IntKind} (ht : P.underlying t = some (.int k)) : IE P (d + 1) t GInt := by
 intro w cs cs' off ⟨z, h⟩ ⟨z', h'⟩
 refine ⟨_, _, z == z', part_one ht rfl h w, part_one ht rfl h' w, by simp [Op.equalIn, run_underlying ht], ?_⟩
 rw [h, h']; simp
theorem IE.bool {d : Nat} {t : TypeId} (ht : P.underlying t = some .bool) : IE P (d + 1) t GBool := by
 intro w cs cs' off ⟨z, h⟩ ⟨z', h'⟩
 refine ⟨_, _, z == z', part_one ht rfl h w, part_one ht rfl h' w, by simp [Op.equalIn, run_underlying ht], ?_⟩
 rw [h, h']; simp
theorem IE.mono {d : Nat} {t : TypeId} {G G' : List Value → Prop} (h : IE P d t G) (hg : ∀ cs, G' cs → G cs) : IE P d t G' :=
 fun w cs cs' off h1 h2 => h w cs cs' off (hg _ h1) (hg _ h2)
theorem ES.part {d : Nat} {t : TypeId} {i : TypeInfo} {td : TypeDesc} {G : List Value → Prop} (h : ES P d t G) (ht : P.underlying t = some td) (hd : (match td with | .struct _ | .array _ _ => true | _ => false) = true) (hi : P.info? t = some i) : IE P d t G := by
 intro w cs cs' off h1 h2
 obtain ⟨r, hr, hiff⟩ := h w _ _ h1 h2
 have key : ∀ cs : List Value, (Go.part t cs.toArray off).run P w = .ok (.agg (piece P t cs off).toArray) w := by
  intro cs
  have ha : (isAgg t).run P w = .ok true w := by unfold isAgg; cases td <;> simp_all [Sem.run_bind, run_underlying ht]
  have he : cs.toArray.extract off (off + P.cellsOf t) = (piece P t cs off).toArray := by
   unfold piece
   apply Array.ext'
   simp [List.extract_eq_take_drop]
  unfold Go.part
  simp only [Sem.run_bind, ha, Result.andThen_ok, if_true, run_sizeOf w hi, he]
  rfl
 exact ⟨_, _, r, key cs, key cs', hr, hiff⟩
def contig (P : Program) : List Field → Nat → Nat → Bool
 | [], o, n => o == n
 | f :: fs, o, n => (f.name != "_") && f.offset == o && contig P fs (o + P.cellsOf f.type) n
theorem drop_eq_iff (a b : List Value) (o m : Nat) : a.drop o = b.drop o ↔ (a.drop o).take m = (b.drop o).take m ∧ a.drop (o + m) = b.drop (o + m) := by
 constructor
 ·intro h
  have e : ∀ c : List Value, c.drop (o + m) = (c.drop o).drop m := fun c => by rw [List.drop_drop]
  rw [e, e, h]
  exact ⟨rfl, rfl⟩
 ·rintro ⟨h1, h2⟩
  have e : ∀ c : List Value, c.drop (o + m) = (c.drop o).drop m := fun c => by rw [List.drop_drop]
  rw [e, e] at h2
  rw [← List.take_append_drop m (a.drop o), ← List.take_append_drop m (b.drop o), h1, h2]
theorem eqFields_run {d : Nat} {Gs : List (List Value → Prop)} (w : World) (cs cs' : List Value) (n : Nat) (hl : cs.length = n) (hl' : cs'.length = n) : ∀ (fs : List Field) (o : Nat), contig P fs o n = true →
  (∀ f ∈ fs, ∃ G, IE P d f.type G ∧ G (piece P f.type cs f.offset) ∧ G (piece P f.type cs' f.offset)) →
  ∃ r, (Op.eqFields d cs.toArray cs'.toArray fs).run P w = .ok r w ∧ (r = true ↔ cs.drop o = cs'.drop o)
 | [], o, h, _ => by
  have : o = n := by simpa [contig] using h
  subst this
  exact ⟨true, by simp [Op.eqFields], by simp [List.drop_of_length_le, hl, hl']⟩
 | f :: fs, o, h, hG => by
  simp only [contig, Bool.and_eq_true, bne_iff_ne, beq_iff_eq] at h
  obtain ⟨⟨hn, ho⟩, hc⟩ := h
  obtain ⟨G, hI, g1, g2⟩ := hG f (by simp)
  obtain ⟨a, b, r, p1, p2, p3, hiff⟩ := hI w cs cs' f.offset g1 g2
  obtain ⟨r', hr', hiff'⟩ := eqFields_run (Gs := Gs) w cs cs' n hl hl' fs _ hc (fun g hg => hG g (by simp [hg]))
  simp only [Op.eqFields, hn, ne_eq, not_false_eq_true, if_true, Sem.run_bind, p1, p2, p3, Result.andThen_ok]
  rw [drop_eq_iff cs cs' o (P.cellsOf f.type)]
  rw [ho] at hiff
  unfold piece at hiff
  cases r
  ·exact ⟨false, by simp, by simp; intro e; exact absurd (hiff.2 e) (by simp)⟩
  ·refine ⟨r', by simpa using hr', ?_⟩
   rw [hiff']
   exact ⟨fun h => ⟨hiff.1 rfl, h⟩, fun h => h.2⟩
theorem ES.struct {d : Nat} {t : TypeId} {G : List Value → Prop} (ht : P.underlying t = some (.struct (P.fieldsOf t))) (hp : P.stoodInHeld t = false) (n : Nat) (hc : contig P (P.fieldsOf t).toList 0 n = true)
  (hG : ∀ cs, G cs → cs.length = n) (hf : ∀ f ∈ (P.fieldsOf t).toList, ∃ G', IE P d f.type G' ∧ ∀ cs, G cs → G' (piece P f.type cs f.offset)) : ES P (d + 1) t G := by
 intro w cs cs' h1 h2
 rw [run_equalIn_struct w d t _ _ ht hp]
 have := eqFields_run (d := d) (Gs := []) w cs cs' n (hG _ h1) (hG _ h2) (P.fieldsOf t).toList 0 hc (fun f hfm => by
  obtain ⟨G', a, b⟩ := hf f hfm
  exact ⟨G', a, b _ h1, b _ h2⟩)
 simpa using this
theorem eqItems_run {d : Nat} {e : TypeId} {G : List Value → Prop} (hI : IE P d e G) (w : World) (cs cs' : List Value) (n : Nat) (hl : cs.length = n * P.cellsOf e) (hl' : cs'.length = n * P.cellsOf e) : ∀ (m o : Nat), o + m = n →
  (∀ i, i < n → G (piece P e cs (i * P.cellsOf e)) ∧ G (piece P e cs' (i * P.cellsOf e))) →
  ∃ r, (Op.eqItems d e (P.cellsOf e) cs.toArray cs'.toArray (List.range' o m)).run P w = .ok r w ∧ (r = true ↔ cs.drop (o * P.cellsOf e) = cs'.drop (o * P.cellsOf e))
 | 0, o, ho, _ => by
  have : o = n := by omega
  subst this
  exact ⟨true, by simp [Op.eqItems], by simp [List.drop_of_length_le, hl, hl']⟩
 | m + 1, o, ho, hG => by
  obtain ⟨g1, g2⟩ := hG o (by omega)
  obtain ⟨a, b, r, p1, p2, p3, hiff⟩ := hI w cs cs' (o * P.cellsOf e) g1 g2
  obtain ⟨r', hr', hiff'⟩ := eqItems_run hI w cs cs' n hl hl' m (o + 1) (by omega) hG
  simp only [List.range'_succ, Op.eqItems, Sem.run_bind, p1, p2, p3, Result.andThen_ok]
  rw [drop_eq_iff cs cs' (o * P.cellsOf e) (P.cellsOf e)]
  rw [Nat.succ_mul] at hiff'
  unfold piece at hiff
  cases r
  ·exact ⟨false, by simp, by simp; intro e; exact absurd (hiff.2 e) (by simp)⟩
  ·refine ⟨r', by simpa using hr', ?_⟩
   rw [hiff']
   exact ⟨fun h => ⟨hiff.1 rfl, h⟩, fun h => h.2⟩
theorem ES.array {d : Nat} {t e : TypeId} {n : Nat} {i : TypeInfo} {G G' : List Value → Prop} (ht : P.underlying t = some (.array n e)) (hi : P.info? e = some i) (hI : IE P d e G') (hG : ∀ cs, G cs → cs.length = n * P.cellsOf e ∧ ∀ i, i < n → G' (piece P e cs (i * P.cellsOf e))) : ES P (d + 1) t G := by
 intro w cs cs' h1 h2
 rw [run_equalIn_array w d _ _ ht hi, List.range_eq_range']
 have := eqItems_run hI w cs cs' n (hG _ h1).1 (hG _ h2).1 n 0 (by omega) (fun i hi => ⟨(hG _ h1).2 i hi, (hG _ h2).2 i hi⟩)
 simpa using this
theorem gInts_piece {t : TypeId} {n off : Nat} {cs : List Value} (h : GInts n cs) (hle : off + P.cellsOf t ≤ n) : GInts (P.cellsOf t) (piece P t cs off) := by
 obtain ⟨zs, rfl, hl⟩ := h
 refine ⟨(zs.drop off).take (P.cellsOf t), ?_, by rw [List.length_take, List.length_drop]; omega⟩
 unfold piece ints
 rw [List.map_take, List.map_drop]
theorem gInts_one {cs : List Value} (h : GInts 1 cs) : GInt cs := by
 obtain ⟨zs, rfl, hl⟩ := h
 match zs, hl with
 | [z], _ => exact ⟨z, rfl⟩
theorem IE.ints1 {d : Nat} {t : TypeId} {k : IntKind} (ht : P.underlying t = some (.int k)) : IE P (d + 1) t (GInts 1) := (IE.int ht).mono fun _ => gInts_one
theorem ES.flat {d : Nat} {t : TypeId} (ht : P.underlying t = some (.struct (P.fieldsOf t))) (hp : P.stoodInHeld t = false) (n : Nat) (hc : contig P (P.fieldsOf t).toList 0 n = true)
  (hle : ((P.fieldsOf t).toList.all fun f => decide (f.offset + P.cellsOf f.type ≤ n)) = true)
  (hf : ∀ f ∈ (P.fieldsOf t).toList, IE P d f.type (GInts (P.cellsOf f.type))) : ES P (d + 1) t (GInts n) := by
 refine ES.struct ht hp n hc (fun cs h => ?_) (fun f hfm => ⟨_, hf f hfm, fun cs h => gInts_piece h ?_⟩)
 ·obtain ⟨zs, rfl, hl⟩ := h; rw [ints_length]; exact hl
 ·simpa using List.all_eq_true.1 hle f hfm
theorem ES.intArr {d : Nat} {t e : TypeId} {n : Nat} {i : TypeInfo} {k : IntKind} (ht : P.underlying t = some (.array n e)) (hi : P.info? e = some i) (he : P.underlying e = some (.int k)) (h1 : P.cellsOf e = 1) : ES P (d + 2) t (GInts n) := by
 refine ES.array ht hi ((IE.int he).mono (fun _ => id)) (fun cs h => ⟨?_, fun j hj => gInts_one ?_⟩)
 ·obtain ⟨zs, rfl, hl⟩ := h; rw [ints_length, h1]; omega
 ·have := gInts_piece (P := P) (t := e) (off := j * P.cellsOf e) h (by rw [h1]; omega)
  rwa [h1] at this ⊢
theorem ints_inj {a b : List Int} : ints a = ints b ↔ a = b := by
 constructor
 ·intro h
  unfold ints at h
  exact List.map_inj_right (fun x y h => by cases h; rfl) |>.1 h
 ·rintro rfl; rfl
theorem ES.eqlI {t : TypeId} {n : Nat} (h : ES P 10000 t (GInts n)) (w : World) (a b : List Int) (ha : a.length = n) (hb : b.length = n) {x y : Array Value} (hx : x = (ints a).toArray) (hy : y = (ints b).toArray) :
  (binOp .eql t (.agg x) (.agg y)).run P w = .ok (.bool (eqB a b)) w := by
 subst hx; subst hy
 obtain ⟨r, hr, hiff⟩ := h w (ints a) (ints b) ⟨a, rfl, ha⟩ ⟨b, rfl, hb⟩
 rw [run_eql_struct, hr]
 have : r = eqB a b := by rw [Bool.eq_iff_iff, hiff, ints_inj]; simp [eqB]
 simp [this]
theorem ES.neqI {t : TypeId} {n : Nat} (h : ES P 10000 t (GInts n)) (w : World) (a b : List Int) (ha : a.length = n) (hb : b.length = n) {x y : Array Value} (hx : x = (ints a).toArray) (hy : y = (ints b).toArray) :
  (binOp .neq t (.agg x) (.agg y)).run P w = .ok (.bool (!eqB a b)) w := by
 subst hx; subst hy
 obtain ⟨r, hr, hiff⟩ := h w (ints a) (ints b) ⟨a, rfl, ha⟩ ⟨b, rfl, hb⟩
 rw [run_neq_struct, hr]
 have : r = eqB a b := by rw [Bool.eq_iff_iff, hiff, ints_inj]; simp [eqB]
 simp [this]
end
theorem ieInt (d : Nat) : IE Tryz.prog (d + 1) 3 (GInts (Tryz.prog.cellsOf 3)) := by
 rw [show Tryz.prog.cellsOf 3 = 1 by kernel_rfl]; exact IE.ints1 Tryz.underlying3
theorem esHandle (d : Nat) : ES Tryz.prog (d + 2) 41 (GInts 2) := by
 refine ES.flat (by kernel_rfl) (by kernel_rfl) 2 (by kernel_rfl) (by kernel_rfl) ?_
 intro f hf
 simp only [Program.fieldsOf, Tryz.underlying41, List.mem_cons, List.not_mem_nil, or_false] at hf
 rcases hf with rfl | rfl <;> exact ieInt d
theorem esArr (d : Nat) : ES Tryz.prog (d + 2) 48 (GInts 8) := by
 obtain ⟨i, hi⟩ := Option.isSome_iff_exists.1 (show (Tryz.prog.info? 3).isSome = true by kernel_rfl)
 exact ES.intArr Tryz.underlying48 hi Tryz.underlying3 (by kernel_rfl)
theorem esBeast (d : Nat) : ES Tryz.prog (d + 3) 50 (GInts 9) := by
 refine ES.flat (by kernel_rfl) (by kernel_rfl) 9 (by kernel_rfl) (by kernel_rfl) ?_
 intro f hf
 simp only [Program.fieldsOf, Tryz.underlying50, List.mem_cons, List.not_mem_nil, or_false] at hf
 rcases hf with rfl | rfl
 ·exact ieInt (d + 1)
 ·show IE Tryz.prog (d + 2) 48 (GInts (Tryz.prog.cellsOf 48))
  rw [show Tryz.prog.cellsOf 48 = 8 by kernel_rfl]
  obtain ⟨i, hi⟩ := Option.isSome_iff_exists.1 (show (Tryz.prog.info? 48).isSome = true by kernel_rfl)
  exact (esArr d).part Tryz.underlying48 rfl hi
theorem esSlot (d : Nat) : ES Tryz.prog (d + 2) 159 (fun cs => ∃ z b, cs = [.int .i64 z, .bool b]) := by
 refine ES.struct (by kernel_rfl) (by kernel_rfl) 2 (by kernel_rfl) (fun cs h => by obtain ⟨z, b, rfl⟩ := h; rfl) ?_
 intro f hf
 simp only [Program.fieldsOf, Tryz.underlying159, List.mem_cons, List.not_mem_nil, or_false] at hf
 rcases hf with rfl | rfl
 ·refine ⟨GInt, IE.int Tryz.underlying3, ?_⟩
  rintro cs ⟨z, b, rfl⟩
  have e : Tryz.prog.cellsOf 3 = 1 := by kernel_rfl
  simp only [piece, e]
  exact ⟨z, rfl⟩
 ·refine ⟨GBool, IE.bool Tryz.underlying4, ?_⟩
  rintro cs ⟨z, b, rfl⟩
  have e : Tryz.prog.cellsOf 4 = 1 := by kernel_rfl
  simp only [piece, e]
  exact ⟨b, rfl⟩
theorem guardSlot : Tryz.prog.eqGuardType Tryz.prog.depth 159 = false := by kernel_rfl
theorem eqlHandle (w : World) (a b c d : Int) : (binOp .eql 41 (.agg #[.int .i64 a, .int .i64 b]) (.agg #[.int .i64 c, .int .i64 d])).run Tryz.prog w = .ok (.bool (eqB (a, b) (c, d))) w := by
 have h := (esHandle 9998).eqlI w [a, b] [c, d] rfl rfl (x := #[.int .i64 a, .int .i64 b]) (y := #[.int .i64 c, .int .i64 d]) rfl rfl
 refine h.trans ?_
 have e : eqB [a, b] [c, d] = eqB (a, b) (c, d) := by simp [eqB]
 rw [e]
theorem eqlSlot (w : World) (a b : Int) (x y : Bool) : (binOp .eql 159 (.agg #[.int .i64 a, .bool x]) (.agg #[.int .i64 b, .bool y])).run Tryz.prog w = .ok (.bool (eqB (a, x) (b, y))) w := by
 obtain ⟨r, hr, hiff⟩ := esSlot 9998 w [.int .i64 a, .bool x] [.int .i64 b, .bool y] ⟨_, _, rfl⟩ ⟨_, _, rfl⟩
 rw [run_eql_struct]
 rw [show (10000 : Nat) = 9998 + 2 from rfl, hr]
 have : r = eqB (a, x) (b, y) := by rw [Bool.eq_iff_iff, hiff]; simp [eqB]
 simp [this]
end Go.Proofs.YtehjfmjibiafdaaGreat
namespace Go.Proofs.YtehjfmjibiafdaaGreat
open Go
abbrev Sl := List (Int × Bool)
def freeB (x : Int × Bool) : Bool := !x.2 && decide (x.1 < 1000000)
def firstI {α : Type} (p : α → Bool) (l : List α) : Int := match l.findIdx? p with | some k => (k : Int) | none => -1
theorem fi_some {α : Type} {p : α → Bool} {l : List α} {k : Nat} (hk : k < l.length) (hp : p l[k] = true) (hn : ∀ j (h : j < k), p (l[j]'(by omega)) = false) : l.findIdx? p = some k := by
 rw [List.findIdx?_eq_some_iff_getElem]
 exact ⟨hk, hp, fun j hj => by simp [hn j hj]⟩
theorem fi_none {α : Type} {p : α → Bool} {l : List α} (h : ∀ j (hj : j < l.length), p l[j] = false) : l.findIdx? p = none := by
 rw [List.findIdx?_eq_none_iff]
 intro x hx
 obtain ⟨j, hj, rfl⟩ := List.mem_iff_getElem.1 hx
 exact h j hj
theorem fi_lt {α : Type} {p : α → Bool} {l : List α} {k : Nat} (h : l.findIdx? p = some k) : ∃ hk : k < l.length, p l[k] = true := by
 rw [List.findIdx?_eq_some_iff_getElem] at h
 exact ⟨h.1, h.2.1⟩
theorem firstI_some {α : Type} {p : α → Bool} {l : List α} {k : Nat} (h : l.findIdx? p = some k) : firstI p l = k := by unfold firstI; rw [h]
theorem firstI_none {α : Type} {p : α → Bool} {l : List α} (h : l.findIdx? p = none) : firstI p l = -1 := by unfold firstI; rw [h]
def takeL (l : Sl) : Sl := match l.findIdx? freeB with
 | some k => l.set k ((l.getD k (0, false)).1, true)
 | none => if l.length = 60 then l else l ++ [(0, true)]
def takeK (l : Sl) : Int := match l.findIdx? freeB with
 | some k => k
 | none => if l.length = 60 then 0 else l.length
def takeG (l : Sl) : Int := match l.findIdx? freeB with
 | some k => (l.getD k (0, false)).1
 | none => 0
def takeE (l : Sl) : Int := match l.findIdx? freeB with
 | some _ => 0
 | none => if l.length = 60 then 2 else 0
def liveB (l : Sl) (s g : Int) : Bool := decide (0 ≤ s) && (match l[s.toNat]? with | some x => x.2 && decide (x.1 = g) | none => false)
def freeL (l : Sl) (s g : Int) : Sl := if liveB l s g = true then l.set s.toNat (g + 1, false) else l
def freeE (l : Sl) (s g : Int) : Int := if liveB l s g = true then 0 else 7
def allFrom : Nat → Sl → List (Int × Int)
 | _, [] => []
 | k, x :: l => (if x.2 = true then [((k : Int), x.1)] else []) ++ allFrom (k + 1) l
def allS (l : Sl) : List (Int × Int) := allFrom 0 l
def gensS (l : Sl) : List Int := l.map (·.1)
def livesS (l : Sl) : List Bool := l.map (·.2)
theorem allFrom_append (k : Nat) (a b : Sl) : allFrom k (a ++ b) = allFrom k a ++ allFrom (k + a.length) b := by
 induction a generalizing k with
 | nil => simp [allFrom]
 | cons x a ih => simp [allFrom, ih, Nat.add_assoc, Nat.add_comm 1]
theorem allS_take_succ (l : Sl) (k : Nat) (h : k < l.length) : allS (l.take (k + 1)) = allS (l.take k) ++ (if l[k].2 = true then [((k : Int), l[k].1)] else []) := by
 rw [take_succ_get l k h, allS, allFrom_append, allS]
 simp [allFrom, Nat.min_eq_left (Nat.le_of_lt h)]
theorem mem_allFrom (l : Sl) (k : Nat) (s g : Int) : (s, g) ∈ allFrom k l ↔ ∃ j : Nat, s = ((k + j : Nat) : Int) ∧ ∃ h : j < l.length, l[j].2 = true ∧ l[j].1 = g := by
 induction l generalizing k with
 | nil => simp [allFrom]
 | cons x l ih =>
  rw [allFrom, List.mem_append, ih]
  constructor
  ·rintro (h | ⟨j, h1, h2, h3⟩)
   ·split at h
    ·rename_i hx
     simp only [List.mem_singleton, Prod.mk.injEq] at h
     exact ⟨0, by simpa using h.1, by simp, by simpa using hx, by simpa using h.2.symm⟩
    ·simp at h
   ·exact ⟨j + 1, by rw [h1]; omega, by simpa using h2, by simpa using h3⟩
  ·rintro ⟨j, h1, h2, h3⟩
   cases j with
   | zero =>
    left
    simp only [List.getElem_cons_zero] at h3
    rw [if_pos h3.1]
    simp only [List.mem_singleton, Prod.mk.injEq]
    exact ⟨by simpa using h1, h3.2.symm⟩
   | succ j =>
    right
    exact ⟨j, by rw [h1]; omega, by simpa using h2, by simpa using h3⟩
theorem liveB_iff (l : Sl) (s g : Int) : liveB l s g = true ↔ (s, g) ∈ allS l := by
 rw [allS, mem_allFrom]
 unfold liveB
 constructor
 ·intro h
  rw [Bool.and_eq_true, decide_eq_true_eq] at h
  obtain ⟨h0, h1⟩ := h
  cases hx : l[s.toNat]? with
  | none => rw [hx] at h1; cases h1
  | some x =>
   rw [hx] at h1
   simp only [Bool.and_eq_true, decide_eq_true_eq] at h1
   obtain ⟨hl, he⟩ := List.getElem?_eq_some_iff.1 hx
   exact ⟨s.toNat, by omega, hl, by rw [he]; exact h1.1, by rw [he]; exact h1.2⟩
 ·rintro ⟨j, rfl, hj, h1, h2⟩
  rw [Bool.and_eq_true]
  refine ⟨by simp, ?_⟩
  have : ((0 + j : Nat) : Int).toNat = j := by omega
  rw [this, List.getElem?_eq_getElem hj]
  simp [h1, h2]
theorem hasB_all (l : Sl) (s g : Int) : hasB (allS l) (s, g) = liveB l s g := by
 rw [Bool.eq_iff_iff, hasB_iff, liveB_iff]
theorem liveB_lt {l : Sl} {s g : Int} (h : liveB l s g = true) : 0 ≤ s ∧ ∃ hk : s.toNat < l.length, l[s.toNat] = (g, true) := by
 unfold liveB at h
 rw [Bool.and_eq_true, decide_eq_true_eq] at h
 obtain ⟨h0, h1⟩ := h
 cases hx : l[s.toNat]? with
 | none => rw [hx] at h1; cases h1
 | some x =>
  rw [hx] at h1
  simp only [Bool.and_eq_true, decide_eq_true_eq] at h1
  obtain ⟨hl, he⟩ := List.getElem?_eq_some_iff.1 hx
  exact ⟨h0, hl, by rw [he]; exact Prod.ext h1.2 h1.1⟩
theorem allFrom_len (l : Sl) (k : Nat) : (allFrom k l).length ≤ l.length := by
 induction l generalizing k with
 | nil => simp [allFrom]
 | cons x l ih =>
  have := ih (k + 1)
  simp only [allFrom, List.length_append, List.length_cons]
  split
  ·simp only [List.length_cons, List.length_nil]; omega
  ·simp only [List.length_nil]; omega
theorem allS_len (l : Sl) : (allS l).length ≤ l.length := allFrom_len l 0
def SlOk (l : Sl) : Prop := l.length ≤ 60 ∧ ∀ x ∈ l, 0 ≤ x.1 ∧ x.1 ≤ 1000000 ∧ (x.2 = true → x.1 < 1000000)
theorem slOk_nil : SlOk [] := ⟨by simp, by simp⟩
theorem SlOk.at_ {l : Sl} (h : SlOk l) {k : Nat} (hk : k < l.length) : 0 ≤ l[k].1 ∧ l[k].1 ≤ 1000000 ∧ (l[k].2 = true → l[k].1 < 1000000) := h.2 _ (List.getElem_mem hk)
theorem SlOk.take {l : Sl} (h : SlOk l) : SlOk (takeL l) := by
 unfold takeL
 cases hf : l.findIdx? freeB with
 | some k =>
  obtain ⟨hk, hp⟩ := fi_lt hf
  refine ⟨by simpa using h.1, fun x hx => ?_⟩
  rcases List.mem_or_eq_of_mem_set hx with hx | rfl
  ·exact h.2 x hx
  ·have := h.at_ hk
   simp only [freeB, Bool.and_eq_true, decide_eq_true_eq] at hp
   rw [List.getD_eq_getElem?_getD, List.getElem?_eq_getElem hk]
   simp only [Option.getD_some]
   exact ⟨this.1, this.2.1, fun _ => hp.2⟩
 | none =>
  simp only
  split
  ·exact h
  ·next hn =>
   refine ⟨by have := h.1; simp; omega, fun x hx => ?_⟩
   rcases List.mem_append.1 hx with hx | hx
   ·exact h.2 x hx
   ·simp at hx; subst hx; exact ⟨by omega, by omega, fun _ => by omega⟩
theorem SlOk.free {l : Sl} (h : SlOk l) (s g : Int) : SlOk (freeL l s g) := by
 unfold freeL
 split
 ·next hl =>
  obtain ⟨h0, hk, he⟩ := liveB_lt hl
  have := h.at_ hk
  rw [he] at this
  refine ⟨by simpa using h.1, fun x hx => ?_⟩
  rcases List.mem_or_eq_of_mem_set hx with hx | rfl
  ·exact h.2 x hx
  ·have h3 := this.2.2 rfl
   simp only at this h3
   exact ⟨by simp; omega, by simp; omega, fun h => by cases h⟩
 ·exact h
end Go.Proofs.YtehjfmjibiafdaaGreat
