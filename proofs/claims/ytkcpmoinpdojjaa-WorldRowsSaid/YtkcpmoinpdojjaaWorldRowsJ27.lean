import Derived.ProofKit
import Derived.OpenShut
import Derived.Deep.Slices
import Derived.Test.YtkcpmoinpdojjaaWorldRowsJ2
import Derived.Test.YtkcpmoinpdojjaaWorldRowsJ1
import Derived.Test.YtkcpmoinpdojjaaProg
import Derived.Test.YtkcpmoinpdojjaaWorldRowsJ8
import Derived.Below
import Derived.Carry
import Derived.SizedLaws
import Derived.Test.YtkcpmoinpdojjaaWorldRowsJ26
import Derived.Shelf.SlIterI.Collect
import Derived.Test.YtkcpmoinpdojjaaWorldRowsJ17
import Derived.Shelf.SlSortCmp.NoneTotal
import Derived.Test.YtkcpmoinpdojjaaWorldRowsJ3
/- Arguments whose cells are all integers: opened to lists. -/
namespace Go.Proofs.Ytkcpmoinpdojjaa
open Go Go.ChangeShapes Go.WideShapes Go.RowKit

/-- Whatever reads at this type is laid out as 64-bit integers. -/
def IntCells (P : Program) (t : TypeId) : Prop :=
  ∀ {H : Type} {enc : TypeId × Value → H} {w : World} {base : Nat} {sp : Nat → Bool} {held : Bool} {fuel : Nat} {cs : List Value} {x : DataW H × List MemPlace},
    DataW.trod enc P w base sp held fuel t cs = some x → cs.length = P.cellsOf t ∧ ∀ u ∈ cs, ∃ z, u = .int .i64 z ∧ InR z

theorem inR_of_wf {z : Int} (h : (Lit.int .i64 z).wf = true) : InR z := by
  simp [Lit.wf, IntKind.min, IntKind.max, IntKind.bits, IntKind.signed] at h
  unfold InR
  omega

section
variable {P : Program} {t e : TypeId}
theorem IntCells.int (ht : P.underlying t = some (.int .i64)) (hC : P.cellsOf t = 1) : IntCells P t := by
  intro H enc w base sp held fuel cs x h
  obtain ⟨n, rfl, _, hw⟩ := DataW.trod_int ht h
  refine ⟨by rw [hC]; rfl, fun u hu => ?_⟩
  simp at hu
  exact ⟨n, hu, inR_of_wf hw⟩

theorem IntCells.struct {fs : Array Field} (ht : P.underlying t = some (.struct fs))
    (hc : ((List.range (P.cellsOf t)).all fun c => fs.any fun f => decide (f.offset ≤ c) && decide (c < f.offset + P.cellsOf f.type)) = true)
    (hf : ∀ f ∈ fs, IntCells P f.type) : IntCells P t := by
  intro H enc w base sp held fuel cs x h
  obtain ⟨xs, n, _, _, hlen, hxs, hg⟩ := DataW.trod_struct ht h
  refine ⟨hlen, fun u hu => ?_⟩
  obtain ⟨c, hcl, rfl⟩ := List.mem_iff_getElem.1 hu
  have := List.all_eq_true.1 hc c (by simp; omega)
  rw [Array.any_eq_true] at this
  obtain ⟨i, hi, hi2⟩ := this
  simp only [Bool.and_eq_true, decide_eq_true_eq] at hi2
  have h1 := hg i fs[i] (Array.getElem?_eq_getElem hi)
  have h2 : xs[i]? = some (xs[i]'(by omega)) := List.getElem?_eq_getElem (by omega)
  rw [h2] at h1
  refine ((hf fs[i] (Array.getElem_mem hi)) h1).2 _ ?_
  rw [List.mem_iff_getElem?]
  refine ⟨c - fs[i].offset, ?_⟩
  rw [List.getElem?_take, if_pos (by omega), List.getElem?_drop, show fs[i].offset + (c - fs[i].offset) = c by omega]
  exact List.getElem?_eq_getElem hcl

theorem IntCells.array {n : Nat} (ht : P.underlying t = some (.array n e)) (hC : P.cellsOf t = n * P.cellsOf e) (hpos : 0 < P.cellsOf e) (he : IntCells P e) : IntCells P t := by
  intro H enc w base sp held fuel cs x h
  obtain ⟨xs, m, _, _, hlen, hxs, hg⟩ := DataW.trod_array ht h
  refine ⟨hlen, fun u hu => ?_⟩
  obtain ⟨c, hcl, rfl⟩ := List.mem_iff_getElem.1 hu
  have hi : c / P.cellsOf e < n := by
    rw [Nat.div_lt_iff_lt_mul hpos]; omega
  have h1 := hg (c / P.cellsOf e) hi
  have h2 : xs[c / P.cellsOf e]? = some (xs[c / P.cellsOf e]'(by omega)) := List.getElem?_eq_getElem (by omega)
  rw [h2] at h1
  refine (he h1).2 _ ?_
  rw [List.mem_iff_getElem?]
  refine ⟨c % P.cellsOf e, ?_⟩
  rw [List.getElem?_take, if_pos (Nat.mod_lt _ hpos), List.getElem?_drop, Nat.mul_comm, Nat.div_add_mod]
  exact List.getElem?_eq_getElem hcl

theorem ints_of {cs : List Value} (h : ∀ u ∈ cs, ∃ z, u = .int .i64 z ∧ InR z) : ∃ zs : List Int, cs = ints zs ∧ ∀ z ∈ zs, InR z := by
  induction cs with
  | nil => exact ⟨[], rfl, by simp⟩
  | cons u cs ih =>
    obtain ⟨z, rfl, hz⟩ := h u (by simp)
    obtain ⟨zs, rfl, hzs⟩ := ih (fun u hu => h u (by simp [hu]))
    exact ⟨z :: zs, rfl, by simpa using ⟨hz, hzs⟩⟩

/-- A struct or an array by value. -/
theorem open_flat {H : Type} {enc : TypeId × Value → H} {W : World} {d : DataW H} {ps : List MemPlace} {cs : Array Value} (he : IntCells P t)
    (h : DataW.Trod enc P W 0 (fun _ => true) true t (.agg cs) d ps) : ∃ zs : List Int, cs = (ints zs).toArray ∧ zs.length = P.cellsOf t ∧ ∀ z ∈ zs, InR z := by
  obtain ⟨fuel, hf⟩ := h
  obtain ⟨hl, hz⟩ := he hf
  obtain ⟨zs, hzs, hr⟩ := ints_of hz
  have hcs : cs.toList = ints zs := hzs
  refine ⟨zs, by rw [← hcs], ?_, hr⟩
  have : (ints zs).length = P.cellsOf t := by rw [← hzs]; exact hl
  rwa [ints_length] at this

/-- A slice of such elements. -/
theorem open_slice_flat {H : Type} {enc : TypeId × Value → H} {W : World} {b : Nat} {r : Reach} {v : Value} {d : DataW H} {ps : List MemPlace} {B k : Nat} (ht : P.underlying t = some (.slice e))
    (he : IntCells P e) (hk : P.cellsOf e = k) (hpos : 0 < k) (hv : Value.okWide P W r b t v) (h : DataW.Trod enc P W 0 (fun _ => true) true t v d ps) (hlt : ∀ p ∈ ps, p.block < B) :
    ∃ (A : Option Addr) (n c : Nat) (zs : List Int), v = .slice A n c ∧ n ≤ c ∧ c ≤ 9223372036854775807 ∧ zs.length = n * k ∧ (∀ z ∈ zs, InR z) ∧ Lies W B A (ints zs) := by
  obtain ⟨a0, n0, c0, rfl⟩ := okWide_slice ht hv
  obtain ⟨fuel, hf⟩ := h
  rcases Go.Deep.open_slice ht hf with ⟨hcs, _⟩ | ⟨a, len, cap, m, n, D, Pl, hcs, _, hl, hm, hmm, hx, hi⟩
  · have : a0 = none ∧ n0 = 0 ∧ c0 = 0 := by simpa [Value.cells] using hcs
    obtain ⟨rfl, rfl, rfl⟩ := this
    exact ⟨none, 0, 0, [], rfl, by omega, by omega, by simp, by simp, Lies.nil _ _ _⟩
  · have : a0 = some a ∧ n0 = len ∧ c0 = cap := by simpa [Value.cells] using hcs
    obtain ⟨rfl, rfl, rfl⟩ := this
    simp only [if_true] at hmm
    subst hmm
    have hcell : ∀ j, j < n0 * k → ∃ z, W.cell? (a.add j) = some (.int .i64 z) ∧ InR z := by
      intro j hj
      have hij : j / k < n0 := by rw [Nat.div_lt_iff_lt_mul hpos]; omega
      obtain ⟨cs', hc', ht'⟩ := hi (j / k) (by omega)
      obtain ⟨_, hl', hat⟩ := World.cells?_some hc'
      obtain ⟨_, hz⟩ := he ht'
      rw [hk] at hat hl'
      have hjk : j % k < k := Nat.mod_lt _ hpos
      have h1 := hat (j % k) hjk
      rw [add_add_, Nat.mul_comm, Nat.div_add_mod] at h1
      have h2 : cs'[j % k]? = some (cs'[j % k]'(by omega)) := List.getElem?_eq_getElem (by omega)
      obtain ⟨z, hz1, hz2⟩ := hz _ (List.getElem_mem (by omega : j % k < cs'.length))
      rw [h2, hz1] at h1
      exact ⟨z, h1, hz2⟩
    have hblk : n0 * k ≠ 0 → a.block < B := by
      intro hne
      have hpos' : 0 < m * k := by
        have : 0 < n0 := Nat.pos_of_ne_zero fun e => hne (by simp [e])
        exact Nat.mul_pos (by omega) hpos
      have hmem : (MemPlace.cell a.block (a.off + 0)) ∈ ps := by
        have : ps = MemPlace.row a (m * P.cellsOf e) ++ (List.range m).flatMap Pl := (Prod.mk.inj hx).2
        rw [this, hk]
        refine List.mem_append.2 (.inl ?_)
        unfold MemPlace.row
        rw [List.mem_map]
        exact ⟨0, by simpa using hpos', rfl⟩
      exact hlt _ hmem
    let f : Nat → Int := fun j => match W.cell? (a.add j) with | some (.int .i64 z) => z | _ => 0
    have hf' : ∀ j, j < n0 * k → W.cell? (a.add j) = some (.int .i64 (f j)) ∧ InR (f j) := by
      intro j hj
      obtain ⟨z, h1, h2⟩ := hcell j hj
      have : f j = z := by simp only [f, h1]
      rw [this]; exact ⟨h1, h2⟩
    refine ⟨some a, n0, _, (List.range (n0 * k)).map f, rfl, hl, by simpa [maxLen] using hm, by simp, ?_, ?_⟩
    · intro z hz
      simp only [List.mem_map, List.mem_range] at hz
      obtain ⟨j, hj, rfl⟩ := hz
      exact (hf' j hj).2
    · intro j u hu
      simp only [ints, List.map_map, List.getElem?_map] at hu
      have hj : j < n0 * k := by
        rcases Nat.lt_or_ge j (n0 * k) with h | h
        · exact h
        · rw [List.getElem?_eq_none (by simpa using h)] at hu; cases hu
      rw [List.getElem?_range hj] at hu
      simp at hu
      subst hu
      exact ⟨a, rfl, hblk (by omega), (hf' j hj).1⟩
end
end Go.Proofs.Ytkcpmoinpdojjaa

/- Types whose cells are all integers. -/
namespace Go.Proofs.Ytkcpmoinpdojjaa
open Go

theorem intCells_int : IntCells Try.prog 3 := IntCells.int Try.underlying3 (by kernel_rfl)
theorem intCells_arr : IntCells Try.prog 22 := IntCells.array Try.underlying22 (by kernel_rfl) (of_decide_eq_true (by kernel_rfl)) intCells_int
theorem intCells_Query : IntCells Try.prog 26 := IntCells.struct Try.underlying26 (by kernel_rfl) (by
  intro f hf
  simp only [List.mem_toArray, List.mem_cons, List.not_mem_nil, or_false] at hf
  rcases hf with rfl | rfl | rfl <;> exact intCells_int)
theorem intCells_Beast : IntCells Try.prog 24 := IntCells.struct Try.underlying24 (by kernel_rfl) (by
  intro f hf
  simp only [List.mem_toArray, List.mem_cons, List.not_mem_nil, or_false] at hf
  rcases hf with rfl | rfl
  · exact intCells_int
  · exact intCells_arr)
theorem intCells_System : IntCells Try.prog 28 := IntCells.struct Try.underlying28 (by kernel_rfl) (by
  intro f hf
  simp only [List.mem_toArray, List.mem_cons, List.not_mem_nil, or_false] at hf
  rcases hf with rfl | rfl | rfl | rfl | rfl
  · exact intCells_Query
  all_goals exact intCells_int)
theorem intCells_Handle : IntCells Try.prog 45 := IntCells.struct Try.underlying45 (by kernel_rfl) (by
  intro f hf
  simp only [List.mem_toArray, List.mem_cons, List.not_mem_nil, or_false] at hf
  rcases hf with rfl | rfl <;> exact intCells_int)
end Go.Proofs.Ytkcpmoinpdojjaa

/- Slices of bools among the arguments; lists of pairs of integers. -/
namespace Go.Proofs.Ytkcpmoinpdojjaa
open Go Go.ChangeShapes Go.WideShapes Go.RowKit

theorem open_slice_bools {H : Type} {enc : TypeId × Value → H} {P : Program} {t e : TypeId} {W : World} {b : Nat} {r : Reach} {v : Value} {d : DataW H} {ps : List MemPlace} {B : Nat} (ht : P.underlying t = some (.slice e))
    (he : P.underlying e = some .bool) (hk : P.cellsOf e = 1) (hv : Value.okWide P W r b t v) (h : DataW.Trod enc P W 0 (fun _ => true) true t v d ps) (hlt : ∀ p ∈ ps, p.block < B) :
    ∃ (A : Option Addr) (n c : Nat) (zs : List Bool), v = .slice A n c ∧ n ≤ c ∧ c ≤ 9223372036854775807 ∧ zs.length = n ∧ Lies W B A (bools zs) := by
  obtain ⟨a0, n0, c0, rfl⟩ := okWide_slice ht hv
  obtain ⟨fuel, hf⟩ := h
  rcases Go.Deep.open_slice ht hf with ⟨hcs, _⟩ | ⟨a, len, cap, m, n, D, Pl, hcs, _, hl, hm, hmm, hx, hi⟩
  · have : a0 = none ∧ n0 = 0 ∧ c0 = 0 := by simpa [Value.cells] using hcs
    obtain ⟨rfl, rfl, rfl⟩ := this
    exact ⟨none, 0, 0, [], rfl, by omega, by omega, rfl, Lies.nil _ _ _⟩
  · have : a0 = some a ∧ n0 = len ∧ c0 = cap := by simpa [Value.cells] using hcs
    obtain ⟨rfl, rfl, rfl⟩ := this
    simp only [if_true] at hmm
    subst hmm
    have hcell : ∀ j, j < n0 → ∃ z, W.cell? (a.add j) = some (.bool z) := by
      intro j hj
      obtain ⟨cs', hc', ht'⟩ := hi j (by omega)
      obtain ⟨_, hl', hat⟩ := World.cells?_some hc'
      obtain ⟨z, hz1, _⟩ := DataW.trod_bool he ht'
      rw [hk] at hat hl'
      have h1 := hat 0 (by omega)
      rw [add_add_, Nat.mul_one, Nat.add_zero, hz1] at h1
      exact ⟨z, h1⟩
    have hblk : n0 ≠ 0 → a.block < B := by
      intro hne
      have hmem : (MemPlace.cell a.block (a.off + 0)) ∈ ps := by
        have : ps = MemPlace.row a (m * P.cellsOf e) ++ (List.range m).flatMap Pl := (Prod.mk.inj hx).2
        rw [this, hk]
        refine List.mem_append.2 (.inl ?_)
        unfold MemPlace.row
        rw [List.mem_map]
        exact ⟨0, by simp; omega, rfl⟩
      exact hlt _ hmem
    let f : Nat → Bool := fun j => match W.cell? (a.add j) with | some (.bool z) => z | _ => false
    have hf' : ∀ j, j < n0 → W.cell? (a.add j) = some (.bool (f j)) := by
      intro j hj
      obtain ⟨z, h1⟩ := hcell j hj
      have : f j = z := by simp only [f, h1]
      rw [this]; exact h1
    refine ⟨some a, n0, _, (List.range n0).map f, rfl, hl, by simpa [maxLen] using hm, by simp, ?_⟩
    intro j u hu
    simp only [bools, List.map_map, List.getElem?_map] at hu
    have hj : j < n0 := by
      rcases Nat.lt_or_ge j n0 with h | h
      · exact h
      · rw [List.getElem?_eq_none (by simpa using h)] at hu; cases hu
    rw [List.getElem?_range hj] at hu
    simp at hu
    subst hu
    exact ⟨a, rfl, hblk (by omega), hf' j hj⟩

def handleI (h : Int × Int) : List Int := [h.1, h.2]
theorem handleI_mk : ∀ zs : List Int, zs.length = 2 → ∃ x, handleI x = zs
  | [a, b], _ => ⟨(a, b), rfl⟩
theorem ints_flatMap {α : Type} (f : α → List Int) (l : List α) : ints (l.flatMap f) = l.flatMap fun x => ints (f x) := by
  unfold ints; rw [List.map_flatMap]
theorem Lies.bool {w : World} {B : Nat} {A : Option Addr} {zs : List Bool} (h : Lies w B A (bools zs)) {k : Nat} (hk : k < zs.length) :
    ∃ b o, A = some ⟨b, o, none⟩ ∧ b < B ∧ w.cell? ⟨b, o + k, none⟩ = some (.bool zs[k]) := by
  have h1 : Lies w B A (zs.flatMap boolC) := by rw [← bools_flat]; exact h
  obtain ⟨b, o, e, hb, hc⟩ := h1.rec_at (n := 1) (fun _ => rfl) (by omega) hk
  have := hc 0 _ rfl
  rw [Nat.mul_one, Nat.add_zero] at this
  exact ⟨b, o, e, hb, this⟩
end Go.Proofs.Ytkcpmoinpdojjaa

/- A law's statement out of its contract: the call returns true and nothing that was there has turned. -/
namespace Go.Proofs.Ytkcpmoinpdojjaa
open Go Go.ChangeShapes Go.WideShapes Go.ChangeAt Go.RowKit

theorem trodAll_stays {H : Type} {enc : TypeId × Value → H} {P : Program} (hl : laidOutB P = true) {W W' : World} (hB : Below W.heap.size W W') :
    ∀ (ts : List TypeId) (vs : List Value) (ds : List (DataW H)) (ps : List MemPlace), (∀ t ∈ ts, P.readableRec t = true ∧ t < P.types.size) → (∀ p ∈ ps, p.block < W.heap.size) →
      DataW.TrodAll enc P W 0 (fun _ => true) true ts vs ds ps → DataW.TrodAll enc P W' 0 (fun b => decide (b < W.heap.size)) true ts vs ds ps := by
  intro ts
  induction ts with
  | nil =>
    intro vs ds ps _ _ h
    cases vs <;> cases ds <;> first | exact h | exact h.elim
  | cons t ts ih =>
    intro vs ds ps hr hlt h
    cases vs with
    | nil => cases ds <;> exact h.elim
    | cons v vs =>
      cases ds with
      | nil => exact h.elim
      | cons d ds =>
        obtain ⟨p, q, h1, h2, rfl⟩ := h
        have ht := hr t (by simp)
        exact ⟨p, q, Below.trod hl ht.1 ht.2 h1 hB (fun x hx => hlt x (by simp [hx])),
          ih vs ds q (fun t' ht' => hr t' (by simp [ht'])) (fun x hx => hlt x (by simp [hx])) h2, rfl⟩

theorem trodAll_length {H : Type} {enc : TypeId × Value → H} {P : Program} {W : World} {b : Nat} {sp : Nat → Bool} {hd : Bool} :
    ∀ (ts : List TypeId) (vs : List Value) (ds : List (DataW H)) (ps : List MemPlace), DataW.TrodAll enc P W b sp hd ts vs ds ps → ds.length = ts.length := by
  intro ts
  induction ts with
  | nil => intro vs ds ps h; cases vs <;> cases ds <;> first | rfl | exact h.elim
  | cons t ts ih =>
    intro vs ds ps h
    cases vs with
    | nil => cases ds <;> exact h.elim
    | cons v vs =>
      cases ds with
      | nil => exact h.elim
      | cons d ds =>
        obtain ⟨p, q, _, h2, _⟩ := h
        simp [ih vs ds q h2]

/-- What a law's row asks behind the call. -/
theorem law_post {H : Type} {enc : TypeId × Value → H} {P : Program} {fn : Func} {s : ChangeSpec} {W W' : World} {args : Array Value} {ds gs : List (DataW H)} {before : List MemPlace} {tb : TypeId}
    (hl : laidOutB P = true) (hr : ∀ t ∈ fn.params.toList, P.readableRec t = true ∧ t < P.types.size) (hv : s.vars = []) (hres : fn.resultTypes = #[tb]) (hb : P.underlying tb = some .bool)
    (hspec : ∀ (ds : List (DataW H)), ds.length = fn.params.toList.length → s.fn H ds = { results := [.lit (.bool true)], args := ds })
    (hW : DataW.Whole enc P fn.params.toList s.vars false W args.toList ds gs before) (hB : Below W.heap.size W W') :
    s.post enc P fn false true false false W args (.bool true) W' := by
  have hlt := hW.lt
  have hW' := hW
  obtain ⟨p, q, hA, hV, rfl, _, _⟩ := hW
  rw [hv] at hV
  obtain ⟨rfl, rfl⟩ := trodVars_none hV
  have he : s.fn H (ds ++ []) = { results := [.lit (.bool true)], args := ds } := by
    rw [List.append_nil]; exact hspec ds (trodAll_length _ _ _ _ hA)
  refine ⟨ds, [], p ++ [], [], p, [], hW', ?_, ?_, ?_, hB.frame _, fun h => by cases h⟩
  · rw [he, hres]
    exact trodAll_mk1 (shut_bool hb true)
  · rw [he]
    exact trodAll_stays hl hB _ _ _ _ hr (fun x hx => hlt x (by simp [hx])) hA
  · rw [he, hv]
    exact rfl

/-- The contract that a law's row wants, out of one on values. -/
theorem law_lifted {H : Type} {enc : TypeId × Value → H} {C : Checked} {os : Os} (started : os.Started) {f : FuncId} {fn : Func} {s : ChangeSpec} {tb : TypeId}
    (own : ownKnob C.prog.godebug = none) (hl : laidOutB C.prog = true) (hno : C.prog.inits.idxOf? f = none) (hfn : C.prog.funcs[f]? = some fn)
    (hr : ∀ t ∈ fn.params.toList, C.prog.readableRec t = true ∧ t < C.prog.types.size) (hv : s.vars = []) (hres : fn.resultTypes = #[tb]) (hb : C.prog.underlying tb = some .bool)
    (hspec : ∀ (ds : List (DataW H)), ds.length = fn.params.toList.length → s.fn H ds = { results := [.lit (.bool true)], args := ds })
    (witness : ∃ (w : World) (tape : Tape) (i : Input), w.os = os ∧ (w.forCall tape i).Shaped C.prog ∧ i.vars = [] ∧ Input.okWide C.prog (w.forCall tape i) .any w.heap.size f i ∧
      s.pre6 enc C.prog fn [] false (w.forCall tape i).memory i.args ∧ Assume.holds {} C.prog (lone (Frame.enter C.prog f i.args .normal) [] (w.forCall tape i)))
    (hc : ∀ (W : World) (base : Nat) (args : Array Value) (ds : List (DataW H)) (ps : List MemPlace),
      (∀ (j : Nat) t v, fn.params[j]? = some t → args[j]? = some v → Value.okWide C.prog W .any base t v) →
      DataW.TrodAll enc C.prog W 0 (fun _ => true) true fn.params.toList args.toList ds ps → (∀ p ∈ ps, p.block < W.heap.size) →
      Calls C.prog f args W fun e W' => e = .returned (.bool true) ∧ Below W.heap.size W W') :
    ReturnsInHanded {} C os f .any (s.pre6 enc C.prog fn [] false) (s.post enc C.prog fn false true false false) := by
  refine returnsInHanded_of_change own started hno hfn witness ?_
  intro W base args ds gs before hval hW _ _
  have hlt := hW.lt
  have hW' := hW
  obtain ⟨p, q, hA, _, rfl, _, _⟩ := hW
  refine (hc W base args ds p hval hA (fun x hx => hlt x (by simp [hx]))).mono ?_
  rintro e W' ⟨rfl, hB⟩
  exact ⟨_, rfl, law_post hl hr hv hres hb hspec hW' hB⟩
#print axioms law_lifted
end Go.Proofs.Ytkcpmoinpdojjaa

/- A law's statement out of its contract, where the contract wants to know how large the arguments may be. -/
namespace Go.Proofs.Ytkcpmoinpdojjaa
open Go Go.ChangeShapes Go.WideShapes Go.ChangeAt Go.RowKit

theorem law_lifted_sized {H : Type} {enc : TypeId × Value → H} {C : Checked} {os : Os} (started : os.Started) {f : FuncId} {fn : Func} {s : ChangeSpec} {tb : TypeId}
    (own : ownKnob C.prog.godebug = none) (hl : laidOutB C.prog = true) (hno : C.prog.inits.idxOf? f = none) (hfn : C.prog.funcs[f]? = some fn)
    (hr : ∀ t ∈ fn.params.toList, C.prog.readableRec t = true ∧ t < C.prog.types.size) (hv : s.vars = []) (hres : fn.resultTypes = #[tb]) (hb : C.prog.underlying tb = some .bool)
    (hspec : ∀ (ds : List (DataW H)), ds.length = fn.params.toList.length → s.fn H ds = { results := [.lit (.bool true)], args := ds })
    (witness : ∃ (w : World) (tape : Tape) (i : Input), w.os = os ∧ (w.forCall tape i).Shaped C.prog ∧ i.vars = [] ∧ Input.okWide C.prog (w.forCall tape i) .any w.heap.size f i ∧
      s.pre6 enc C.prog fn [] false (w.forCall tape i).memory i.args ∧ Assume.holds {} C.prog (lone (Frame.enter C.prog f i.args .normal) [] (w.forCall tape i)))
    (hc : ∀ (W : World) (base : Nat) (args : Array Value) (ds : List (DataW H)) (ps : List MemPlace),
      (∀ (j : Nat) t v, fn.params[j]? = some t → args[j]? = some v → Value.okWide C.prog W .any base t v) →
      DataW.TrodAll enc C.prog W 0 (fun _ => true) true fn.params.toList args.toList ds ps → (∀ p ∈ ps, p.block < W.heap.size) →
      (∀ (j : Nat) t d, fn.params.toList[j]? = some t → ds[j]? = some d → ∀ m ∈ d.weights C.prog t, m ≤ reachBytes) →
      Calls C.prog f args W fun e W' => e = .returned (.bool true) ∧ Below W.heap.size W W') :
    ReturnsInHanded {} C os f .any (s.pre6 enc C.prog fn [] false) (s.post enc C.prog fn false true false false) := by
  refine returnsInHanded_of_change_sized own started hno hfn witness ?_
  intro W base args ds gs before hval hW _ hsz _
  have hlt := hW.lt
  have hW' := hW
  obtain ⟨p, q, hA, _, rfl, _, _⟩ := hW
  refine (hc W base args ds p hval hA (fun x hx => hlt x (by simp [hx])) ?_).mono ?_
  · intro j t d ht hd m hm
    have h1 : (fn.params.toList ++ s.plain.varTypes C.prog)[j]? = some t := by
      rw [List.getElem?_append_left (List.getElem?_eq_some_iff.1 ht).1]; exact ht
    have h2 : (ds ++ gs)[j]? = some d := by
      rw [List.getElem?_append_left (List.getElem?_eq_some_iff.1 hd).1]; exact hd
    have := List.all_eq_true.1 hsz m (DataW.weights_mem_each h1 h2 m hm)
    simpa using this
  · rintro e W' ⟨rfl, hB⟩
    exact ⟨_, rfl, law_post hl hr hv hres hb hspec hW' hB⟩

/-- How long a slice may be. -/
theorem slice_size {H : Type} {enc : TypeId × Value → H} {P : Program} {t e : TypeId} {W : World} {A : Option Addr} {n c : Nat} {d : DataW H} {ps : List MemPlace} (ht : P.underlying t = some (.slice e))
    (h : DataW.Trod enc P W 0 (fun _ => true) true t (.slice A n c) d ps) (hw : ∀ m ∈ d.weights P t, m ≤ reachBytes) : n * P.bytesOf e ≤ reachBytes := by
  obtain ⟨fuel, hf⟩ := h
  rcases Go.Deep.open_slice ht hf with ⟨hcs, _⟩ | ⟨a, len, cap, m, n', D, Pl, hcs, _, hl, hm, hmm, hx, hi⟩
  · have : n = 0 := by
      have : A = none ∧ n = 0 ∧ c = 0 := by simpa [Value.cells] using hcs
      exact this.2.1
    subst this
    simp
  · have : A = some a ∧ n = len ∧ c = cap := by simpa [Value.cells] using hcs
    obtain ⟨rfl, rfl, rfl⟩ := this
    have hd := (Prod.mk.inj hx).1
    have h1 := hw ((n + (m - n)) * P.bytesOf e) (by rw [hd]; simp [DataW.weights, ht])
    exact Nat.le_trans (Nat.mul_le_mul_right _ (by omega)) h1
/-- A nil slice has no elements. -/
theorem slice_none {P : Program} {t e : TypeId} {W : World} {b : Nat} {r : Reach} {n c : Nat} {H : Type} {enc : TypeId × Value → H} {d : DataW H} {ps : List MemPlace} (ht : P.underlying t = some (.slice e))
    (h : DataW.Trod enc P W 0 (fun _ => true) true t (.slice none n c) d ps) : n = 0 ∧ c = 0 := by
  obtain ⟨fuel, hf⟩ := h
  rcases Go.Deep.open_slice ht hf with ⟨hcs, _⟩ | ⟨a, len, cap, m, n', D, Pl, hcs, _⟩
  · simpa [Value.cells] using hcs
  · simp [Value.cells] at hcs
theorem reach_val : reachBytes = 140737488351232 := by decide
end Go.Proofs.Ytkcpmoinpdojjaa

/- Ops as sixteen numbers; the pair of a new world and a new zoo. (printed by mk_wdoes.py) -/
namespace Go.Proofs.Ytkcpmoinpdojjaa
open Go Go.RowKit Go.ChangeShapes Go.WideShapes Go.ChangeAt

/-- An op; its sixteen numbers. -/
abbrev Ov := Int × Bt × Hd × Hd × Int × Int
def opI (x : Ov) : List Int := [x.1] ++ (btI x.2.1 ++ (hdI x.2.2.1 ++ (hdI x.2.2.2.1 ++ [x.2.2.2.2.1, x.2.2.2.2.2])))
def opC (x : Ov) : List Value := ints (opI x)
theorem opC_len (x : Ov) : (opC x).length = 16 := rfl
theorem opC_one (x : Ov) : ∀ u ∈ opC x, u.oneCell' = true := ints_one _
theorem sz_Op (x : Ov) : (Try.prog.info? 74).map (·.size) = some (opC x).length := by rw [opC_len]; kernel_rfl
theorem opI_mk (zs : List Int) (h : zs.length = 16) : ∃ x, opI x = zs := by
  match zs, h with
  | [d, K, a0, a1, a2, a3, a4, a5, a6, a7, s, g, ts, tg, kd, n], _ => exact ⟨(d, (K, a0, a1, a2, a3, a4, a5, a6, a7), (s, g), (ts, tg), kd, n), rfl⟩
theorem intCells_Op : IntCells Try.prog 74 := IntCells.struct Try.underlying74 (by kernel_rfl) (by
  intro f hf
  simp only [List.mem_toArray, List.mem_cons, List.not_mem_nil, or_false] at hf
  rcases hf with rfl | rfl | rfl | rfl | rfl | rfl
  · exact intCells_int
  · exact intCells_Beast
  · exact intCells_Handle
  · exact intCells_Handle
  · exact intCells_int
  · exact intCells_int)
theorem killE_neg {sl : Sl} {L : List Rw} (h : WOk sl L) : killE L (-1, 0) = 7 := by
  unfold killE
  cases hi : idxL L (-1, 0) with
  | none => rfl
  | some i =>
    obtain ⟨hl, he⟩ := idx_some hi
    obtain ⟨s, -, h2⟩ := h.slot (List.getElem_mem hl)
    rw [he] at h2
    simp only at h2
    omega
theorem pz_start {w w1 w2 : World} {p : Nat} {F : List Nat} (h : RepW w1 p [] [] F) (hF : ∀ y ∈ F, w.heap.size ≤ y) (hb : Below w.heap.size w w1) (h2 : w1.alloc (.cells #[.slice none 0 0, .slice none 0 0, .slice none 0 0, .slice none 0 0] 72) = w2) :
    PZ (.slice none 0 0) w.heap.size [] p w1.heap.size [] [] [] [] w2 ∧ Below w.heap.size w w2 := by
  have hlt := h.lt
  have hs := hb.size
  have hb2 : Below w1.heap.size w1 w2 := by rw [← h2]; exact (Below.refl _ _).alloc (Nat.le_refl _) _
  have hq : w2.heap[w1.heap.size]? = some (.cells #[.slice none 0 0, .slice none 0 0, .slice none 0 0, .slice none 0 0] 72 (0, 0)) := by rw [← h2]; exact heap_alloc_new w1 _
  have hr : ∀ E k, w2.ownsRow 0 E k (.slice none 0 0) 0 [] := fun E k => ⟨(Nat.zero_mul k).symm, .inl ⟨rfl, rfl⟩⟩
  refine ⟨⟨F, [w1.heap.size], ⟨h.below hb2, ⟨.slice none 0 0, [w1.heap.size], ⟨.slice none 0 0, .slice none 0 0, hq, hr _ _, hr _ _, rfl, by simp⟩, hr _ _, by simp [Value.ownBlock], by simp⟩, fun y hy e => ?_, fun y hy => ⟨hF y hy, by simp⟩, fun y hy => ?_, by have := hb2.size; omega, by simp⟩⟩, hb.trans (hb2.mono hs)⟩
  · have := hlt y hy; simp at e; omega
  · simp at hy; subst hy; exact ⟨hs, by simp⟩
theorem eqInt_rows (l : List Int) (v v' : Value) (w : World) (hl : l.length ≤ 60) (h : w.ownsRow 0 3 1 v l.length (ints l)) (h' : w.ownsRow 0 3 1 v' l.length (ints l)) :
    Calls Try.prog 29 #[v, v'] w fun e w' => e = .returned (.bool true) ∧ Below w.heap.size w w' := by
  obtain ⟨A, c, rfl, hc, hA⟩ := own_lies h
  obtain ⟨A', c', rfl, hc', hA'⟩ := own_lies h'
  have := eqInt_any A c A' c' l l _ _ w (by omega) (by omega) hA hA'
  rw [eqB_self] at this
  exact this.mono fun e w' ⟨h1, h2⟩ => ⟨h1, by rw [← h2]; exact Below.refl _ _⟩
section
variable {vB : Value} {Lo : Nat} {Z : List Nat} {p q : Nat} {sl sl' : Sl} {L L' : List Rw} {w : World}
theorem pz_slots (h : PZ vB Lo Z p q sl L sl' L' w) : p < w.heap.size ∧ ∃ ps FS, w.cell? ⟨p, 0, none⟩ = some (.pointer (some ⟨ps, 0, none⟩)) ∧ RepS w ps sl FS := by
  obtain ⟨F, G, h⟩ := h
  obtain ⟨ps, mt, mp, tb, rw, pl, FS, Fs, c, hW, -, -, -⟩ := h.a
  have e0 := blk_cell hW.blk 0
  simp only [List.getElem?_toArray, List.getElem?_cons_zero, List.getElem?_cons_succ] at e0
  exact ⟨blk_lt hW.blk, ps, FS, e0, hW.sl⟩
theorem pz_gens (h : PZ vB Lo Z p q sl L sl' L' w) : q < w.heap.size ∧ ∃ vg, w.cell? ⟨q, 0, none⟩ = some vg ∧ w.ownsRow 0 3 1 vg sl'.length (ints (gensS sl')) := by
  obtain ⟨F, G, h⟩ := h
  obtain ⟨vL, FS, ⟨vg, vl, h1, h2, -⟩, -⟩ := h.b
  have e0 := blk_cell h1 0
  simp only [List.getElem?_toArray, List.getElem?_cons_zero, List.getElem?_cons_succ] at e0
  exact ⟨blk_lt h1, vg, e0, h2⟩
end
end Go.Proofs.Ytkcpmoinpdojjaa

/- slices.Collect(maps.Keys(m)) at a map with integer keys: the keys, in some order. -/
namespace Go.Proofs.Ytkcpmoinpdojjaa
open Go Go.RowKit Go.Shelf Go.Maps Go.Sort

def keysTab_ren : Go.Shelf.Ren := ⟨fun | 7 => 118 | 10 => 156 | n => n, fun | 23 => 78 | 26 => 3 | 3 => 37 | 28 => 180 | 0 => 0 | 27 => 179 | 33 => 119 | 4 => 4 | n => n, fun | n => n⟩
theorem keysTab : Go.Proofs.SlLaysZI.n7 Try.prog keysTab_ren := {
  mixed := by kernel_rfl,
  f7 := ⟨Try.f118.name, by decide, Try.func118.trans (congrArg some (by kernel_rfl))⟩,
  f10 := ⟨Try.f156.name, by decide, Try.func156.trans (congrArg some (by kernel_rfl))⟩,
  t0 := Try.underlying0,
  a0 := Try.isAgg0,
  z0 := Try.sizeOf0,
  v0 := Try.zeroValue0,
  t4 := Try.underlying4,
  a4 := Try.isAgg4,
  z4 := Try.sizeOf4,
  v4 := Try.zeroValue4,
  t23 := Try.underlying78,
  a23 := Try.isAgg78,
  z23 := Try.sizeOf78,
  v23 := Try.zeroValue78,
  t26 := Try.underlying3,
  a26 := Try.isAgg3,
  z26 := Try.sizeOf3,
  v26 := Try.zeroValue3,
  t27 := Try.underlying179,
  a27 := Try.isAgg179,
  z27 := Try.sizeOf179,
  v27 := Try.zeroValue179,
  t28 := Try.underlying180,
  a28 := Try.isAgg180,
  z28 := Try.sizeOf180,
  v28 := Try.zeroValue180,
  t33 := Try.underlying119,
  a33 := Try.isAgg119,
  z33 := Try.sizeOf119,
  v33 := Try.zeroValue119 }
def collInt_ren : Go.Shelf.Ren := ⟨fun | 8 => 117 | 11 => 155 | n => n, fun | 26 => 3 | 28 => 180 | 24 => 55 | 0 => 0 | 33 => 119 | 4 => 4 | n => n, fun | n => n⟩
theorem collInt : Go.Proofs.SlLaysZI.n8 Try.prog collInt_ren := {
  mixed := by kernel_rfl,
  f8 := ⟨Try.f117.name, by decide, Try.func117.trans (congrArg some (by kernel_rfl))⟩,
  f11 := ⟨Try.f155.name, by decide, Try.func155.trans (congrArg some (by kernel_rfl))⟩,
  t0 := Try.underlying0,
  a0 := Try.isAgg0,
  z0 := Try.sizeOf0,
  v0 := Try.zeroValue0,
  t24 := Try.underlying55,
  a24 := Try.isAgg55,
  z24 := Try.sizeOf55,
  v24 := Try.zeroValue55,
  t26 := Try.underlying3,
  a26 := Try.isAgg3,
  z26 := Try.sizeOf3,
  v26 := Try.zeroValue3,
  t28 := Try.underlying180,
  a28 := Try.isAgg180,
  z28 := Try.sizeOf180,
  v28 := Try.zeroValue180,
  i26 := by kernel_rfl }

/-- A map of one's own as the shelf's contracts read it; what the elements are is left out. -/
def noElem (_ : Value) : Option (DataW Unit × List MemPlace) := some (.nil, [])
def intV (v : Value) : Int := match v with
  | .int _ a => a
  | _ => 0
theorem MapAt.owns {w : World} {b : Nat} {l : List (Nat × Nat)} (h : MapAt Try.prog 3 w b (l.map colPr)) (hl : l.length ≤ maxLen) :
    ∃ D : DataW Unit, w.ownsMap Try.prog 3 noElem b l.length D ∧ (Go.intKeys D).Perm (l.map fun x => (x.1 : Int)) ∧ Maps.size D = l.length := by
  obtain ⟨es, clock, hb, hk⟩ := h
  have hsz : es.size = l.length := by
    have := congrArg List.length hk.prs
    simpa [prs] using this
  have hrg : ∀ x ∈ es.toList, Go.intOf (WideElems.rg Try.prog 3 noElem x).1 = intV x.key := by
    intro x hx
    obtain ⟨kl, hkl⟩ := hk.keys x hx
    obtain ⟨z, h1, h2, -⟩ := Maps.keyOf_i64 Try.underlying3 hkl
    rw [WideElems.rg_of (WideElems.rd_mk (born := x.born) hkl rfl), h2, h1]
    rfl
  refine ⟨_, ⟨es, clock, hb, ⟨by omega, hk.st, fun x hx => ?_⟩, by omega, rfl⟩, ?_, ?_⟩
  · obtain ⟨kl, hkl⟩ := hk.keys x hx
    exact ⟨_, WideElems.rd_mk (born := x.born) hkl rfl⟩
  · show (((es.toList.map (WideElems.rg Try.prog 3 noElem)).foldr DataW.insert []).map fun p => Go.intOf p.1).Perm _
    refine ((WideShapes.sorted_perm _).map _).trans ?_
    generalize WideElems.rg Try.prog 3 noElem = f at hrg ⊢
    rw [List.map_map]
    have e1 : es.toList.map ((fun p => Go.intOf p.1) ∘ f) = (es.toList.map (fun e => (e.key, e.val))).map (fun p => intV p.1) := by
      rw [List.map_map]
      exact List.map_congr_left fun x hx => hrg x hx
    have e2 : es.toList.map (fun e => (e.key, e.val)) = l.map colPr := hk.prs
    rw [e1, e2, List.map_map]
    exact .refl _
  · show ((es.toList.map (WideElems.rg Try.prog 3 noElem)).foldr DataW.insert []).length = l.length
    rw [(WideShapes.sorted_perm _).length_eq, List.length_map]
    simpa using hsz

/-- What Collect(Keys(m)) gives. -/
def KeysPost (B : Nat) (l : List (Nat × Nat)) (w : World) (e : Ending) (w' : World) : Prop :=
  ∃ (v : Value) (ss : List Int), e = .returned v ∧ ss.Perm (l.map fun x => (x.1 : Int)) ∧ w'.ownsRow B 3 1 v ss.length (ints ss) ∧ Below w.heap.size w w'
section
variable {w : World} {b : Nat} {l : List (Nat × Nat)}
set_option maxRecDepth 100000 in
theorem keys_any (w : World) (b : Nat) : Calls Try.prog 118 #[.map (some b)] w fun e w' => e = .returned (.func (.func 156) #[] #[.pointer (some ⟨w.heap.size, 0, none⟩)]) ∧ w' = w.alloc (.cells #[.map (some b)] 78) :=
  (callsIn_wide (n := 5)).1 (AnyZI.keys_in keysTab Fence.wide 5 trivial rfl (some b) w)
set_option maxRecDepth 100000 in
theorem coll_any (h : MapAt Try.prog 3 w b (l.map colPr)) (hl : l.length ≤ 1000) :
    Calls Try.prog 117 #[.func (.func 156) #[] #[.pointer (some ⟨w.heap.size, 0, none⟩)]] (w.alloc (.cells #[.map (some b)] 78)) (KeysPost w.heap.size l (w.alloc (.cells #[.map (some b)] 78))) := by
  obtain ⟨D, hD, hp, hs⟩ := h.owns (by unfold maxLen; omega)
  have hbl := hD.lt
  have hseq : SeqGives Fence.wide 4 Try.prog 156 #[.pointer (some ⟨w.heap.size, 0, none⟩)] encZ (fun ss => ss.Perm (Go.intKeys D)) (Maps.size D) (w.alloc (.cells #[.map (some b)] 78)) :=
    AnyZI.keys_gives (ρ := keysTab_ren) { keysTab with } Fence.wide _ trivial rfl (by omega) w.heap.size b l.length D _ (by simp) (by simp) (by
      obtain ⟨es, clock, hb, Ft, hs, hD⟩ := hD
      exact ⟨es, clock, (Below.heap_alloc _ _ b hbl).trans hb, Ft, hs, hD⟩)
  have hc := AnyZI.collect_in collInt Fence.wide 6 trivial trivial rfl (by omega) 156 #[.pointer (some ⟨w.heap.size, 0, none⟩)] trivial (enters_of Try.func156 (by kernel_rfl) rfl) _ _ (by rw [hs]; unfold maxLen; omega) (by rw [hs]; omega) _ hseq
  refine ((callsIn_wide (n := 6)).1 hc).mono ?_
  rintro e w' ⟨v, ss, rfl, hS, hrow, -, hb⟩
  exact ⟨v, ss, rfl, hS.trans hp, ownsRow_base_a hrow (by simp), hb⟩
end
end Go.Proofs.Ytkcpmoinpdojjaa

/- slices.SortFunc at a row of records of one's own: it is permuted, and sorted. -/
namespace Go.Proofs.Ytkcpmoinpdojjaa
open Go Go.RowKit Go.Shelf Go.Sort

section
variable {α : Type} [Inhabited α] {enc : α → List Value} {k : Nat}
theorem get_bang {l : List α} {i : Nat} (h : i < l.length) : l.toArray[i]! = l[i] := by
  rw [getElem!_pos _ i (by simpa using h)]; simp
theorem flat_bang (hk : ∀ x, (enc x).length = k) (l : List α) (t : Nat) (ht : t < l.length * k) : (l.flatMap enc)[t]? = some (flatK enc k l.toArray)[t]! := by
  have k0 : 0 < k := by rcases Nat.eq_zero_or_pos k with h | h
                        · subst h; simp at ht
                        · exact h
  have hq : t / k < l.length := Nat.div_lt_of_lt_mul (by rw [Nat.mul_comm]; exact ht)
  have hr : t % k < k := Nat.mod_lt _ k0
  rw [get_flatK _ _ _ _ (by simpa using ht), get_bang hq]
  have h1 := flatV_get hk l (t / k) hq (t % k) hr
  rw [show t / k * k + t % k = t by rw [Nat.mul_comm]; exact Nat.div_add_mod t k] at h1
  rw [h1, List.getElem?_eq_getElem (by rw [hk]; exact hr), getElem!_pos _ _ (by rw [hk]; exact hr)]
/-- The row, laid anew with as many records. -/
theorem own_putRowK (hk : ∀ x, (enc x).length = k) {w : World} {B E g cap : Nat} {l l' : List α} (hown : w.ownsRow B E k (.slice (some ⟨g, 0, none⟩) l.length cap) l.length (l.flatMap enc)) (hl : l'.length = l.length) (m : Nat) (os : Array Obj) :
    (sortWorldK enc k w g 0 m l'.toArray os).ownsRow B E k (.slice (some ⟨g, 0, none⟩) l'.length cap) l'.length (l'.flatMap enc) ∧ Mod [g] w (sortWorldK enc k w g 0 m l'.toArray os) := by
  obtain ⟨hx, ⟨h, -⟩ | ⟨g', cap', cur, h, hB, hb, hn, hc, hs, ht⟩⟩ := hown
  · cases h
  simp only [Value.slice.injEq, Option.some.injEq, Addr.mk.injEq, true_and] at h
  obtain ⟨⟨rfl, -⟩, rfl⟩ := h
  have hgl := blk_lt hb
  have hput : (putRowK enc k (Sort.ahead w m) g 0 l'.toArray).heap[g]? = some (.cells (putCells id 0 (flatK enc k l'.toArray) cur) E (0, 0)) := by
    unfold putRowK putRow mapBlock
    show (w.heap.modify g _)[g]? = _
    rw [Array.getElem?_modify, if_pos rfl, hb]
    rfl
  have hsz : (putRowK enc k (Sort.ahead w m) g 0 l'.toArray).heap.size = w.heap.size := by
    unfold putRowK
    rw [size_putRow]
    rfl
  have hmod : Mod [g] w (sortWorldK enc k w g 0 m l'.toArray os) := by
    refine ⟨rfl, rfl, rfl, ?_, fun j hj hn => ?_⟩
    · show _ ≤ ((putRowK enc k (Sort.ahead w m) g 0 l'.toArray).heap ++ os).size
      rw [Array.size_append, hsz]; omega
    · show ((putRowK enc k (Sort.ahead w m) g 0 l'.toArray).heap ++ os)[j]? = _
      rw [Array.getElem?_append_left (by rw [hsz]; exact hj)]
      unfold putRowK putRow mapBlock
      show (w.heap.modify g _)[j]? = _
      rw [Array.getElem?_modify, if_neg (fun e => hn (by simp [e]))]
  have hnk : l.length * k ≤ cap * k := Nat.mul_le_mul_right k hn
  refine ⟨⟨by rw [flatV_length hk], .inr ⟨g, cap, putCells id 0 (flatK enc k l'.toArray) cur, rfl, hB, ?_, by omega, hc, by rw [putCells, Array.size_mapIdx]; exact hs, ?_⟩⟩, hmod⟩
  · show ((putRowK enc k (Sort.ahead w m) g 0 l'.toArray).heap ++ os)[g]? = _
    rw [Array.getElem?_append_left (by rw [hsz]; exact hgl)]
    exact hput
  · apply List.ext_getElem?
    intro t
    rw [List.getElem?_take]
    by_cases h1 : t < l'.length * k
    · rw [if_pos h1, flat_bang hk l' t h1]
      have h2 : t < cur.size := by rw [hs]; rw [hl] at h1; omega
      rw [Array.getElem?_toList, putCells, Array.getElem?_mapIdx, Array.getElem?_eq_getElem h2]
      simp only [Option.map_some, Nat.zero_le, true_and, Nat.zero_add, size_flatK, List.size_toArray, id, Nat.sub_zero]
      rw [if_pos h1]
    · rw [if_neg h1, List.getElem?_eq_none (by rw [flatV_length hk]; omega)]
/-- What the sort leaves of a row. -/
def SortedRow (enc : α → List Value) (k B E : Nat) (lt : α → α → Bool) (l : List α) (v : Value) (w : World) (e : Ending) (w' : World) : Prop :=
  e = .returned (.tuple #[]) ∧ ∃ l' : List α, l'.Perm l ∧ l'.Pairwise (fun x y => lt y x = false) ∧ w'.ownsRow B E k v l'.length (l'.flatMap enc) ∧ Mod v.ownBlock.toList w w'
theorem sort_own {P : Program} {ρ : Ren} (L : SlLaysF0.n6 P ρ) (aE : ∀ w, (isAgg (ρ.t 24)).run P w = .ok true w) (zE : ∀ w, (Go.sizeOf (ρ.t 24)).run P w = .ok k w) (hk : ∀ x, (enc x).length = k) (h1 : ∀ x, ∀ v ∈ enc x, v.oneCell' = true)
    (cf : α → α → Int) (hO : SWO (ltOf cf)) (g : Nat) (eg : ∀ args w, (callFunc g args).run P w = .ok (.enter g args) w)
    (hcmp : ∀ x y W, Calls P g #[.agg (enc x).toArray, .agg (enc y).toArray] W fun e w' => e = .returned (.int .i64 (cf x y)) ∧ ∃ q os, w' = grow (W.drewN q) os)
    {w : World} {B E : Nat} {v : Value} {l : List α} (hown : w.ownsRow B E k v l.length (l.flatMap enc)) (hl : l.length < 4611686018427387904) :
    Calls P (ρ.f 6) #[v, .func (.func g) #[] #[]] w (SortedRow enc k B E (ltOf cf) l v w) := by
  obtain ⟨A, cap, rfl, -, -⟩ := row_slice hown
  by_cases h0 : l.length = 0
  · have hn : l = [] := List.eq_nil_of_length_eq_zero h0
    subst hn
    refine (AnyF.slices_SortFunc_none L A cap _ w).mono ?_
    rintro e w' ⟨rfl, rfl⟩
    exact ⟨rfl, [], .refl _, .nil, hown, Mod.refl _ _⟩
  · obtain ⟨g0, cap0, cur, hv, hB, hb, hn, hc, hs, ht⟩ := row_some hown (by omega)
    simp only [Value.slice.injEq, true_and] at hv
    obtain ⟨rfl, rfl⟩ := hv
    have hH : HoldsK enc k w g0 0 l.toArray := by
      intro j hj
      rw [size_flatK, List.size_toArray] at hj
      have := flat_bang hk l j hj
      refine ⟨?_, ?_⟩
      · rw [Nat.zero_add]; exact row_cell hown this
      · rw [Nat.zero_add]; exact row_free hown j
    have hcon := AnyQ.slices_SortFunc L k aE zE enc hk h1 cf hO g #[] g0 0 cap l.toArray w eg (fun m os dk _ x y => by simpa using hcmp x y _) hH (blk_lt hb) (by simpa using hl)
    rw [List.size_toArray] at hcon
    refine hcon.mono ?_
    rintro e w' ⟨rfl, d', n, os, hp, hsd, rfl⟩
    obtain ⟨hp1, -, hp3⟩ := hp
    rw [List.size_toArray] at hp1
    have e1 : d' = d'.toList.toArray := by simp
    have hlen : d'.toList.length = l.length := by simpa using hp1
    obtain ⟨h3, h4⟩ := own_putRowK (l' := d'.toList) hk hown hlen n os
    rw [← e1] at h3 h4
    refine ⟨rfl, d'.toList, ?_, ?_, ?_, ?_⟩
    · have hp2 : d'.size = l.length := by simpa using hp1
      have a1 : (d'.extract 0 l.length) = d' := by rw [← hp2]; exact Array.extract_size
      have a2 : (l.toArray.extract 0 l.length) = l.toArray := by
        have : l.toArray.size = l.length := by simp
        rw [← this]; exact Array.extract_size
      rw [a1, a2] at hp3
      exact hp3
    · refine List.pairwise_iff_getElem.2 fun i j hi hj hij => ?_
      have := hsd i j (Nat.zero_le _) hij (by rw [hlen] at hj; exact hj)
      rw [getElem!_pos d' i (by simpa using hi), getElem!_pos d' j (by simpa using hj)] at this
      simpa using this
    · rw [hlen] at h3 ⊢; exact h3
    · exact h4
end
end Go.Proofs.Ytkcpmoinpdojjaa
