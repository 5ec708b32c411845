import Derived.ProofKit
import Derived.OpenShut
import Derived.Deep.Slices
import Derived.Test.YtkcpmoinpdojjaaFamilyTellsJ2
import Derived.Test.YtkcpmoinpdojjaaFamilyTellsJ1
import Derived.Test.YtkcpmoinpdojjaaProg
import Derived.Test.YtkcpmoinpdojjaaFamilyTellsJ8
import Derived.Below
import Derived.Carry
import Derived.SizedLaws
import Derived.Test.YtkcpmoinpdojjaaFamilyTellsJ26
import Derived.Test.YtkcpmoinpdojjaaChecked
import Derived.JoinedOf
import Derived.KernelRfl
import Derived.DeepKeys4
import Derived.Test.YtkcpmoinpdojjaaFamilyTellsJ7
/- Arguments whose cells are all integers: opened to lists. -/
namespace Go.Proofs.Ytkcpmoinpdojjaa
open Go Go.ChangeShapes Go.WideShapes Go.RowKit

/-- Whatever reads at this type is laid out as 64-bit integers. -/
def IntCells (P : Program) (t : TypeId) : Prop :=
  ∀ {H : Type} {enc : TypeId × Value → H} {w : World} {base : Nat} {sp : Nat → Bool} {held : Bool} {fuel : Nat} {cs : List Value} {x : DataW H × List MemPlace},
    DataW.trod enc P w base sp held fuel t cs = some x → cs.length = P.cellsOf t ∧ ∀ u ∈ cs, ∃ z, u = .int .i64 z ∧ InR z

theorem inR_of_wf {z : Int} (h : (Lit.int .i64 z).wf = true) : InR z := by
  simp [Lit.wf, IntKind.min, IntKind.max, IntKind.bits, IntKind.signed] at h
  unfold InR
  omega

section
variable {P : Program} {t e : TypeId}
theorem IntCells.int (ht : P.underlying t = some (.int .i64)) (hC : P.cellsOf t = 1) : IntCells P t := by
  intro H enc w base sp held fuel cs x h
  obtain ⟨n, rfl, _, hw⟩ := DataW.trod_int ht h
  refine ⟨by rw [hC]; rfl, fun u hu => ?_⟩
  simp at hu
  exact ⟨n, hu, inR_of_wf hw⟩

theorem IntCells.struct {fs : Array Field} (ht : P.underlying t = some (.struct fs))
    (hc : ((List.range (P.cellsOf t)).all fun c => fs.any fun f => decide (f.offset ≤ c) && decide (c < f.offset + P.cellsOf f.type)) = true)
    (hf : ∀ f ∈ fs, IntCells P f.type) : IntCells P t := by
  intro H enc w base sp held fuel cs x h
  obtain ⟨xs, n, _, _, hlen, hxs, hg⟩ := DataW.trod_struct ht h
  refine ⟨hlen, fun u hu => ?_⟩
  obtain ⟨c, hcl, rfl⟩ := List.mem_iff_getElem.1 hu
  have := List.all_eq_true.1 hc c (by simp; omega)
  rw [Array.any_eq_true] at this
  obtain ⟨i, hi, hi2⟩ := this
  simp only [Bool.and_eq_true, decide_eq_true_eq] at hi2
  have h1 := hg i fs[i] (Array.getElem?_eq_getElem hi)
  have h2 : xs[i]? = some (xs[i]'(by omega)) := List.getElem?_eq_getElem (by omega)
  rw [h2] at h1
  refine ((hf fs[i] (Array.getElem_mem hi)) h1).2 _ ?_
  rw [List.mem_iff_getElem?]
  refine ⟨c - fs[i].offset, ?_⟩
  rw [List.getElem?_take, if_pos (by omega), List.getElem?_drop, show fs[i].offset + (c - fs[i].offset) = c by omega]
  exact List.getElem?_eq_getElem hcl

theorem IntCells.array {n : Nat} (ht : P.underlying t = some (.array n e)) (hC : P.cellsOf t = n * P.cellsOf e) (hpos : 0 < P.cellsOf e) (he : IntCells P e) : IntCells P t := by
  intro H enc w base sp held fuel cs x h
  obtain ⟨xs, m, _, _, hlen, hxs, hg⟩ := DataW.trod_array ht h
  refine ⟨hlen, fun u hu => ?_⟩
  obtain ⟨c, hcl, rfl⟩ := List.mem_iff_getElem.1 hu
  have hi : c / P.cellsOf e < n := by
    rw [Nat.div_lt_iff_lt_mul hpos]; omega
  have h1 := hg (c / P.cellsOf e) hi
  have h2 : xs[c / P.cellsOf e]? = some (xs[c / P.cellsOf e]'(by omega)) := List.getElem?_eq_getElem (by omega)
  rw [h2] at h1
  refine (he h1).2 _ ?_
  rw [List.mem_iff_getElem?]
  refine ⟨c % P.cellsOf e, ?_⟩
  rw [List.getElem?_take, if_pos (Nat.mod_lt _ hpos), List.getElem?_drop, Nat.mul_comm, Nat.div_add_mod]
  exact List.getElem?_eq_getElem hcl

theorem ints_of {cs : List Value} (h : ∀ u ∈ cs, ∃ z, u = .int .i64 z ∧ InR z) : ∃ zs : List Int, cs = ints zs ∧ ∀ z ∈ zs, InR z := by
  induction cs with
  | nil => exact ⟨[], rfl, by simp⟩
  | cons u cs ih =>
    obtain ⟨z, rfl, hz⟩ := h u (by simp)
    obtain ⟨zs, rfl, hzs⟩ := ih (fun u hu => h u (by simp [hu]))
    exact ⟨z :: zs, rfl, by simpa using ⟨hz, hzs⟩⟩

/-- A struct or an array by value. -/
theorem open_flat {H : Type} {enc : TypeId × Value → H} {W : World} {d : DataW H} {ps : List MemPlace} {cs : Array Value} (he : IntCells P t)
    (h : DataW.Trod enc P W 0 (fun _ => true) true t (.agg cs) d ps) : ∃ zs : List Int, cs = (ints zs).toArray ∧ zs.length = P.cellsOf t ∧ ∀ z ∈ zs, InR z := by
  obtain ⟨fuel, hf⟩ := h
  obtain ⟨hl, hz⟩ := he hf
  obtain ⟨zs, hzs, hr⟩ := ints_of hz
  have hcs : cs.toList = ints zs := hzs
  refine ⟨zs, by rw [← hcs], ?_, hr⟩
  have : (ints zs).length = P.cellsOf t := by rw [← hzs]; exact hl
  rwa [ints_length] at this

/-- A slice of such elements. -/
theorem open_slice_flat {H : Type} {enc : TypeId × Value → H} {W : World} {b : Nat} {r : Reach} {v : Value} {d : DataW H} {ps : List MemPlace} {B k : Nat} (ht : P.underlying t = some (.slice e))
    (he : IntCells P e) (hk : P.cellsOf e = k) (hpos : 0 < k) (hv : Value.okWide P W r b t v) (h : DataW.Trod enc P W 0 (fun _ => true) true t v d ps) (hlt : ∀ p ∈ ps, p.block < B) :
    ∃ (A : Option Addr) (n c : Nat) (zs : List Int), v = .slice A n c ∧ n ≤ c ∧ c ≤ 9223372036854775807 ∧ zs.length = n * k ∧ (∀ z ∈ zs, InR z) ∧ Lies W B A (ints zs) := by
  obtain ⟨a0, n0, c0, rfl⟩ := okWide_slice ht hv
  obtain ⟨fuel, hf⟩ := h
  rcases Go.Deep.open_slice ht hf with ⟨hcs, _⟩ | ⟨a, len, cap, m, n, D, Pl, hcs, _, hl, hm, hmm, hx, hi⟩
  · have : a0 = none ∧ n0 = 0 ∧ c0 = 0 := by simpa [Value.cells] using hcs
    obtain ⟨rfl, rfl, rfl⟩ := this
    exact ⟨none, 0, 0, [], rfl, by omega, by omega, by simp, by simp, Lies.nil _ _ _⟩
  · have : a0 = some a ∧ n0 = len ∧ c0 = cap := by simpa [Value.cells] using hcs
    obtain ⟨rfl, rfl, rfl⟩ := this
    simp only [if_true] at hmm
    subst hmm
    have hcell : ∀ j, j < n0 * k → ∃ z, W.cell? (a.add j) = some (.int .i64 z) ∧ InR z := by
      intro j hj
      have hij : j / k < n0 := by rw [Nat.div_lt_iff_lt_mul hpos]; omega
      obtain ⟨cs', hc', ht'⟩ := hi (j / k) (by omega)
      obtain ⟨_, hl', hat⟩ := World.cells?_some hc'
      obtain ⟨_, hz⟩ := he ht'
      rw [hk] at hat hl'
      have hjk : j % k < k := Nat.mod_lt _ hpos
      have h1 := hat (j % k) hjk
      rw [add_add_, Nat.mul_comm, Nat.div_add_mod] at h1
      have h2 : cs'[j % k]? = some (cs'[j % k]'(by omega)) := List.getElem?_eq_getElem (by omega)
      obtain ⟨z, hz1, hz2⟩ := hz _ (List.getElem_mem (by omega : j % k < cs'.length))
      rw [h2, hz1] at h1
      exact ⟨z, h1, hz2⟩
    have hblk : n0 * k ≠ 0 → a.block < B := by
      intro hne
      have hpos' : 0 < m * k := by
        have : 0 < n0 := Nat.pos_of_ne_zero fun e => hne (by simp [e])
        exact Nat.mul_pos (by omega) hpos
      have hmem : (MemPlace.cell a.block (a.off + 0)) ∈ ps := by
        have : ps = MemPlace.row a (m * P.cellsOf e) ++ (List.range m).flatMap Pl := (Prod.mk.inj hx).2
        rw [this, hk]
        refine List.mem_append.2 (.inl ?_)
        unfold MemPlace.row
        rw [List.mem_map]
        exact ⟨0, by simpa using hpos', rfl⟩
      exact hlt _ hmem
    let f : Nat → Int := fun j => match W.cell? (a.add j) with | some (.int .i64 z) => z | _ => 0
    have hf' : ∀ j, j < n0 * k → W.cell? (a.add j) = some (.int .i64 (f j)) ∧ InR (f j) := by
      intro j hj
      obtain ⟨z, h1, h2⟩ := hcell j hj
      have : f j = z := by simp only [f, h1]
      rw [this]; exact ⟨h1, h2⟩
    refine ⟨some a, n0, _, (List.range (n0 * k)).map f, rfl, hl, by simpa [maxLen] using hm, by simp, ?_, ?_⟩
    · intro z hz
      simp only [List.mem_map, List.mem_range] at hz
      obtain ⟨j, hj, rfl⟩ := hz
      exact (hf' j hj).2
    · intro j u hu
      simp only [ints, List.map_map, List.getElem?_map] at hu
      have hj : j < n0 * k := by
        rcases Nat.lt_or_ge j (n0 * k) with h | h
        · exact h
        · rw [List.getElem?_eq_none (by simpa using h)] at hu; cases hu
      rw [List.getElem?_range hj] at hu
      simp at hu
      subst hu
      exact ⟨a, rfl, hblk (by omega), (hf' j hj).1⟩
end
end Go.Proofs.Ytkcpmoinpdojjaa

/- Types whose cells are all integers. -/
namespace Go.Proofs.Ytkcpmoinpdojjaa
open Go

theorem intCells_int : IntCells Try.prog 3 := IntCells.int Try.underlying3 (by kernel_rfl)
theorem intCells_arr : IntCells Try.prog 22 := IntCells.array Try.underlying22 (by kernel_rfl) (of_decide_eq_true (by kernel_rfl)) intCells_int
theorem intCells_Query : IntCells Try.prog 26 := IntCells.struct Try.underlying26 (by kernel_rfl) (by
  intro f hf
  simp only [List.mem_toArray, List.mem_cons, List.not_mem_nil, or_false] at hf
  rcases hf with rfl | rfl | rfl <;> exact intCells_int)
theorem intCells_Beast : IntCells Try.prog 24 := IntCells.struct Try.underlying24 (by kernel_rfl) (by
  intro f hf
  simp only [List.mem_toArray, List.mem_cons, List.not_mem_nil, or_false] at hf
  rcases hf with rfl | rfl
  · exact intCells_int
  · exact intCells_arr)
theorem intCells_System : IntCells Try.prog 28 := IntCells.struct Try.underlying28 (by kernel_rfl) (by
  intro f hf
  simp only [List.mem_toArray, List.mem_cons, List.not_mem_nil, or_false] at hf
  rcases hf with rfl | rfl | rfl | rfl | rfl
  · exact intCells_Query
  all_goals exact intCells_int)
theorem intCells_Handle : IntCells Try.prog 45 := IntCells.struct Try.underlying45 (by kernel_rfl) (by
  intro f hf
  simp only [List.mem_toArray, List.mem_cons, List.not_mem_nil, or_false] at hf
  rcases hf with rfl | rfl <;> exact intCells_int)
end Go.Proofs.Ytkcpmoinpdojjaa

/- Slices of bools among the arguments; lists of pairs of integers. -/
namespace Go.Proofs.Ytkcpmoinpdojjaa
open Go Go.ChangeShapes Go.WideShapes Go.RowKit

theorem open_slice_bools {H : Type} {enc : TypeId × Value → H} {P : Program} {t e : TypeId} {W : World} {b : Nat} {r : Reach} {v : Value} {d : DataW H} {ps : List MemPlace} {B : Nat} (ht : P.underlying t = some (.slice e))
    (he : P.underlying e = some .bool) (hk : P.cellsOf e = 1) (hv : Value.okWide P W r b t v) (h : DataW.Trod enc P W 0 (fun _ => true) true t v d ps) (hlt : ∀ p ∈ ps, p.block < B) :
    ∃ (A : Option Addr) (n c : Nat) (zs : List Bool), v = .slice A n c ∧ n ≤ c ∧ c ≤ 9223372036854775807 ∧ zs.length = n ∧ Lies W B A (bools zs) := by
  obtain ⟨a0, n0, c0, rfl⟩ := okWide_slice ht hv
  obtain ⟨fuel, hf⟩ := h
  rcases Go.Deep.open_slice ht hf with ⟨hcs, _⟩ | ⟨a, len, cap, m, n, D, Pl, hcs, _, hl, hm, hmm, hx, hi⟩
  · have : a0 = none ∧ n0 = 0 ∧ c0 = 0 := by simpa [Value.cells] using hcs
    obtain ⟨rfl, rfl, rfl⟩ := this
    exact ⟨none, 0, 0, [], rfl, by omega, by omega, rfl, Lies.nil _ _ _⟩
  · have : a0 = some a ∧ n0 = len ∧ c0 = cap := by simpa [Value.cells] using hcs
    obtain ⟨rfl, rfl, rfl⟩ := this
    simp only [if_true] at hmm
    subst hmm
    have hcell : ∀ j, j < n0 → ∃ z, W.cell? (a.add j) = some (.bool z) := by
      intro j hj
      obtain ⟨cs', hc', ht'⟩ := hi j (by omega)
      obtain ⟨_, hl', hat⟩ := World.cells?_some hc'
      obtain ⟨z, hz1, _⟩ := DataW.trod_bool he ht'
      rw [hk] at hat hl'
      have h1 := hat 0 (by omega)
      rw [add_add_, Nat.mul_one, Nat.add_zero, hz1] at h1
      exact ⟨z, h1⟩
    have hblk : n0 ≠ 0 → a.block < B := by
      intro hne
      have hmem : (MemPlace.cell a.block (a.off + 0)) ∈ ps := by
        have : ps = MemPlace.row a (m * P.cellsOf e) ++ (List.range m).flatMap Pl := (Prod.mk.inj hx).2
        rw [this, hk]
        refine List.mem_append.2 (.inl ?_)
        unfold MemPlace.row
        rw [List.mem_map]
        exact ⟨0, by simp; omega, rfl⟩
      exact hlt _ hmem
    let f : Nat → Bool := fun j => match W.cell? (a.add j) with | some (.bool z) => z | _ => false
    have hf' : ∀ j, j < n0 → W.cell? (a.add j) = some (.bool (f j)) := by
      intro j hj
      obtain ⟨z, h1⟩ := hcell j hj
      have : f j = z := by simp only [f, h1]
      rw [this]; exact h1
    refine ⟨some a, n0, _, (List.range n0).map f, rfl, hl, by simpa [maxLen] using hm, by simp, ?_⟩
    intro j u hu
    simp only [bools, List.map_map, List.getElem?_map] at hu
    have hj : j < n0 := by
      rcases Nat.lt_or_ge j n0 with h | h
      · exact h
      · rw [List.getElem?_eq_none (by simpa using h)] at hu; cases hu
    rw [List.getElem?_range hj] at hu
    simp at hu
    subst hu
    exact ⟨a, rfl, hblk (by omega), hf' j hj⟩

def handleI (h : Int × Int) : List Int := [h.1, h.2]
theorem handleI_mk : ∀ zs : List Int, zs.length = 2 → ∃ x, handleI x = zs
  | [a, b], _ => ⟨(a, b), rfl⟩
theorem ints_flatMap {α : Type} (f : α → List Int) (l : List α) : ints (l.flatMap f) = l.flatMap fun x => ints (f x) := by
  unfold ints; rw [List.map_flatMap]
theorem Lies.bool {w : World} {B : Nat} {A : Option Addr} {zs : List Bool} (h : Lies w B A (bools zs)) {k : Nat} (hk : k < zs.length) :
    ∃ b o, A = some ⟨b, o, none⟩ ∧ b < B ∧ w.cell? ⟨b, o + k, none⟩ = some (.bool zs[k]) := by
  have h1 : Lies w B A (zs.flatMap boolC) := by rw [← bools_flat]; exact h
  obtain ⟨b, o, e, hb, hc⟩ := h1.rec_at (n := 1) (fun _ => rfl) (by omega) hk
  have := hc 0 _ rfl
  rw [Nat.mul_one, Nat.add_zero] at this
  exact ⟨b, o, e, hb, this⟩
end Go.Proofs.Ytkcpmoinpdojjaa

/- A law's statement out of its contract: the call returns true and nothing that was there has turned. -/
namespace Go.Proofs.Ytkcpmoinpdojjaa
open Go Go.ChangeShapes Go.WideShapes Go.ChangeAt Go.RowKit

theorem trodAll_stays {H : Type} {enc : TypeId × Value → H} {P : Program} (hl : laidOutB P = true) {W W' : World} (hB : Below W.heap.size W W') :
    ∀ (ts : List TypeId) (vs : List Value) (ds : List (DataW H)) (ps : List MemPlace), (∀ t ∈ ts, P.readableRec t = true ∧ t < P.types.size) → (∀ p ∈ ps, p.block < W.heap.size) →
      DataW.TrodAll enc P W 0 (fun _ => true) true ts vs ds ps → DataW.TrodAll enc P W' 0 (fun b => decide (b < W.heap.size)) true ts vs ds ps := by
  intro ts
  induction ts with
  | nil =>
    intro vs ds ps _ _ h
    cases vs <;> cases ds <;> first | exact h | exact h.elim
  | cons t ts ih =>
    intro vs ds ps hr hlt h
    cases vs with
    | nil => cases ds <;> exact h.elim
    | cons v vs =>
      cases ds with
      | nil => exact h.elim
      | cons d ds =>
        obtain ⟨p, q, h1, h2, rfl⟩ := h
        have ht := hr t (by simp)
        exact ⟨p, q, Below.trod hl ht.1 ht.2 h1 hB (fun x hx => hlt x (by simp [hx])),
          ih vs ds q (fun t' ht' => hr t' (by simp [ht'])) (fun x hx => hlt x (by simp [hx])) h2, rfl⟩

theorem trodAll_length {H : Type} {enc : TypeId × Value → H} {P : Program} {W : World} {b : Nat} {sp : Nat → Bool} {hd : Bool} :
    ∀ (ts : List TypeId) (vs : List Value) (ds : List (DataW H)) (ps : List MemPlace), DataW.TrodAll enc P W b sp hd ts vs ds ps → ds.length = ts.length := by
  intro ts
  induction ts with
  | nil => intro vs ds ps h; cases vs <;> cases ds <;> first | rfl | exact h.elim
  | cons t ts ih =>
    intro vs ds ps h
    cases vs with
    | nil => cases ds <;> exact h.elim
    | cons v vs =>
      cases ds with
      | nil => exact h.elim
      | cons d ds =>
        obtain ⟨p, q, _, h2, _⟩ := h
        simp [ih vs ds q h2]

/-- What a law's row asks behind the call. -/
theorem law_post {H : Type} {enc : TypeId × Value → H} {P : Program} {fn : Func} {s : ChangeSpec} {W W' : World} {args : Array Value} {ds gs : List (DataW H)} {before : List MemPlace} {tb : TypeId}
    (hl : laidOutB P = true) (hr : ∀ t ∈ fn.params.toList, P.readableRec t = true ∧ t < P.types.size) (hv : s.vars = []) (hres : fn.resultTypes = #[tb]) (hb : P.underlying tb = some .bool)
    (hspec : ∀ (ds : List (DataW H)), ds.length = fn.params.toList.length → s.fn H ds = { results := [.lit (.bool true)], args := ds })
    (hW : DataW.Whole enc P fn.params.toList s.vars false W args.toList ds gs before) (hB : Below W.heap.size W W') :
    s.post enc P fn false true false false W args (.bool true) W' := by
  have hlt := hW.lt
  have hW' := hW
  obtain ⟨p, q, hA, hV, rfl, _, _⟩ := hW
  rw [hv] at hV
  obtain ⟨rfl, rfl⟩ := trodVars_none hV
  have he : s.fn H (ds ++ []) = { results := [.lit (.bool true)], args := ds } := by
    rw [List.append_nil]; exact hspec ds (trodAll_length _ _ _ _ hA)
  refine ⟨ds, [], p ++ [], [], p, [], hW', ?_, ?_, ?_, hB.frame _, fun h => by cases h⟩
  · rw [he, hres]
    exact trodAll_mk1 (shut_bool hb true)
  · rw [he]
    exact trodAll_stays hl hB _ _ _ _ hr (fun x hx => hlt x (by simp [hx])) hA
  · rw [he, hv]
    exact rfl

/-- The contract that a law's row wants, out of one on values. -/
theorem law_lifted {H : Type} {enc : TypeId × Value → H} {C : Checked} {os : Os} (started : os.Started) {f : FuncId} {fn : Func} {s : ChangeSpec} {tb : TypeId}
    (own : ownKnob C.prog.godebug = none) (hl : laidOutB C.prog = true) (hno : C.prog.inits.idxOf? f = none) (hfn : C.prog.funcs[f]? = some fn)
    (hr : ∀ t ∈ fn.params.toList, C.prog.readableRec t = true ∧ t < C.prog.types.size) (hv : s.vars = []) (hres : fn.resultTypes = #[tb]) (hb : C.prog.underlying tb = some .bool)
    (hspec : ∀ (ds : List (DataW H)), ds.length = fn.params.toList.length → s.fn H ds = { results := [.lit (.bool true)], args := ds })
    (witness : ∃ (w : World) (tape : Tape) (i : Input), w.os = os ∧ (w.forCall tape i).Shaped C.prog ∧ i.vars = [] ∧ Input.okWide C.prog (w.forCall tape i) .any w.heap.size f i ∧
      s.pre6 enc C.prog fn [] false (w.forCall tape i).memory i.args ∧ Assume.holds {} C.prog (lone (Frame.enter C.prog f i.args .normal) [] (w.forCall tape i)))
    (hc : ∀ (W : World) (base : Nat) (args : Array Value) (ds : List (DataW H)) (ps : List MemPlace),
      (∀ (j : Nat) t v, fn.params[j]? = some t → args[j]? = some v → Value.okWide C.prog W .any base t v) →
      DataW.TrodAll enc C.prog W 0 (fun _ => true) true fn.params.toList args.toList ds ps → (∀ p ∈ ps, p.block < W.heap.size) →
      Calls C.prog f args W fun e W' => e = .returned (.bool true) ∧ Below W.heap.size W W') :
    ReturnsInHanded {} C os f .any (s.pre6 enc C.prog fn [] false) (s.post enc C.prog fn false true false false) := by
  refine returnsInHanded_of_change own started hno hfn witness ?_
  intro W base args ds gs before hval hW _ _
  have hlt := hW.lt
  have hW' := hW
  obtain ⟨p, q, hA, _, rfl, _, _⟩ := hW
  refine (hc W base args ds p hval hA (fun x hx => hlt x (by simp [hx]))).mono ?_
  rintro e W' ⟨rfl, hB⟩
  exact ⟨_, rfl, law_post hl hr hv hres hb hspec hW' hB⟩
#print axioms law_lifted
end Go.Proofs.Ytkcpmoinpdojjaa

/- A law's statement out of its contract, where the contract wants to know how large the arguments may be. -/
namespace Go.Proofs.Ytkcpmoinpdojjaa
open Go Go.ChangeShapes Go.WideShapes Go.ChangeAt Go.RowKit

theorem law_lifted_sized {H : Type} {enc : TypeId × Value → H} {C : Checked} {os : Os} (started : os.Started) {f : FuncId} {fn : Func} {s : ChangeSpec} {tb : TypeId}
    (own : ownKnob C.prog.godebug = none) (hl : laidOutB C.prog = true) (hno : C.prog.inits.idxOf? f = none) (hfn : C.prog.funcs[f]? = some fn)
    (hr : ∀ t ∈ fn.params.toList, C.prog.readableRec t = true ∧ t < C.prog.types.size) (hv : s.vars = []) (hres : fn.resultTypes = #[tb]) (hb : C.prog.underlying tb = some .bool)
    (hspec : ∀ (ds : List (DataW H)), ds.length = fn.params.toList.length → s.fn H ds = { results := [.lit (.bool true)], args := ds })
    (witness : ∃ (w : World) (tape : Tape) (i : Input), w.os = os ∧ (w.forCall tape i).Shaped C.prog ∧ i.vars = [] ∧ Input.okWide C.prog (w.forCall tape i) .any w.heap.size f i ∧
      s.pre6 enc C.prog fn [] false (w.forCall tape i).memory i.args ∧ Assume.holds {} C.prog (lone (Frame.enter C.prog f i.args .normal) [] (w.forCall tape i)))
    (hc : ∀ (W : World) (base : Nat) (args : Array Value) (ds : List (DataW H)) (ps : List MemPlace),
      (∀ (j : Nat) t v, fn.params[j]? = some t → args[j]? = some v → Value.okWide C.prog W .any base t v) →
      DataW.TrodAll enc C.prog W 0 (fun _ => true) true fn.params.toList args.toList ds ps → (∀ p ∈ ps, p.block < W.heap.size) →
      (∀ (j : Nat) t d, fn.params.toList[j]? = some t → ds[j]? = some d → ∀ m ∈ d.weights C.prog t, m ≤ reachBytes) →
      Calls C.prog f args W fun e W' => e = .returned (.bool true) ∧ Below W.heap.size W W') :
    ReturnsInHanded {} C os f .any (s.pre6 enc C.prog fn [] false) (s.post enc C.prog fn false true false false) := by
  refine returnsInHanded_of_change_sized own started hno hfn witness ?_
  intro W base args ds gs before hval hW _ hsz _
  have hlt := hW.lt
  have hW' := hW
  obtain ⟨p, q, hA, _, rfl, _, _⟩ := hW
  refine (hc W base args ds p hval hA (fun x hx => hlt x (by simp [hx])) ?_).mono ?_
  · intro j t d ht hd m hm
    have h1 : (fn.params.toList ++ s.plain.varTypes C.prog)[j]? = some t := by
      rw [List.getElem?_append_left (List.getElem?_eq_some_iff.1 ht).1]; exact ht
    have h2 : (ds ++ gs)[j]? = some d := by
      rw [List.getElem?_append_left (List.getElem?_eq_some_iff.1 hd).1]; exact hd
    have := List.all_eq_true.1 hsz m (DataW.weights_mem_each h1 h2 m hm)
    simpa using this
  · rintro e W' ⟨rfl, hB⟩
    exact ⟨_, rfl, law_post hl hr hv hres hb hspec hW' hB⟩

/-- How long a slice may be. -/
theorem slice_size {H : Type} {enc : TypeId × Value → H} {P : Program} {t e : TypeId} {W : World} {A : Option Addr} {n c : Nat} {d : DataW H} {ps : List MemPlace} (ht : P.underlying t = some (.slice e))
    (h : DataW.Trod enc P W 0 (fun _ => true) true t (.slice A n c) d ps) (hw : ∀ m ∈ d.weights P t, m ≤ reachBytes) : n * P.bytesOf e ≤ reachBytes := by
  obtain ⟨fuel, hf⟩ := h
  rcases Go.Deep.open_slice ht hf with ⟨hcs, _⟩ | ⟨a, len, cap, m, n', D, Pl, hcs, _, hl, hm, hmm, hx, hi⟩
  · have : n = 0 := by
      have : A = none ∧ n = 0 ∧ c = 0 := by simpa [Value.cells] using hcs
      exact this.2.1
    subst this
    simp
  · have : A = some a ∧ n = len ∧ c = cap := by simpa [Value.cells] using hcs
    obtain ⟨rfl, rfl, rfl⟩ := this
    have hd := (Prod.mk.inj hx).1
    have h1 := hw ((n + (m - n)) * P.bytesOf e) (by rw [hd]; simp [DataW.weights, ht])
    exact Nat.le_trans (Nat.mul_le_mul_right _ (by omega)) h1
/-- A nil slice has no elements. -/
theorem slice_none {P : Program} {t e : TypeId} {W : World} {b : Nat} {r : Reach} {n c : Nat} {H : Type} {enc : TypeId × Value → H} {d : DataW H} {ps : List MemPlace} (ht : P.underlying t = some (.slice e))
    (h : DataW.Trod enc P W 0 (fun _ => true) true t (.slice none n c) d ps) : n = 0 ∧ c = 0 := by
  obtain ⟨fuel, hf⟩ := h
  rcases Go.Deep.open_slice ht hf with ⟨hcs, _⟩ | ⟨a, len, cap, m, n', D, Pl, hcs, _⟩
  · simpa [Value.cells] using hcs
  · simp [Value.cells] at hcs
theorem reach_val : reachBytes = 140737488351232 := by decide
end Go.Proofs.Ytkcpmoinpdojjaa

/- Ops as sixteen numbers; the pair of a new world and a new zoo. (printed by mk_wdoes.py) -/
namespace Go.Proofs.Ytkcpmoinpdojjaa
open Go Go.RowKit Go.ChangeShapes Go.WideShapes Go.ChangeAt

/-- An op; its sixteen numbers. -/
abbrev Ov := Int × Bt × Hd × Hd × Int × Int
def opI (x : Ov) : List Int := [x.1] ++ (btI x.2.1 ++ (hdI x.2.2.1 ++ (hdI x.2.2.2.1 ++ [x.2.2.2.2.1, x.2.2.2.2.2])))
def opC (x : Ov) : List Value := ints (opI x)
theorem opC_len (x : Ov) : (opC x).length = 16 := rfl
theorem opC_one (x : Ov) : ∀ u ∈ opC x, u.oneCell' = true := ints_one _
theorem sz_Op (x : Ov) : (Try.prog.info? 74).map (·.size) = some (opC x).length := by rw [opC_len]; kernel_rfl
theorem opI_mk (zs : List Int) (h : zs.length = 16) : ∃ x, opI x = zs := by
  match zs, h with
  | [d, K, a0, a1, a2, a3, a4, a5, a6, a7, s, g, ts, tg, kd, n], _ => exact ⟨(d, (K, a0, a1, a2, a3, a4, a5, a6, a7), (s, g), (ts, tg), kd, n), rfl⟩
theorem intCells_Op : IntCells Try.prog 74 := IntCells.struct Try.underlying74 (by kernel_rfl) (by
  intro f hf
  simp only [List.mem_toArray, List.mem_cons, List.not_mem_nil, or_false] at hf
  rcases hf with rfl | rfl | rfl | rfl | rfl | rfl
  · exact intCells_int
  · exact intCells_Beast
  · exact intCells_Handle
  · exact intCells_Handle
  · exact intCells_int
  · exact intCells_int)
theorem killE_neg {sl : Sl} {L : List Rw} (h : WOk sl L) : killE L (-1, 0) = 7 := by
  unfold killE
  cases hi : idxL L (-1, 0) with
  | none => rfl
  | some i =>
    obtain ⟨hl, he⟩ := idx_some hi
    obtain ⟨s, -, h2⟩ := h.slot (List.getElem_mem hl)
    rw [he] at h2
    simp only at h2
    omega
theorem pz_start {w w1 w2 : World} {p : Nat} {F : List Nat} (h : RepW w1 p [] [] F) (hF : ∀ y ∈ F, w.heap.size ≤ y) (hb : Below w.heap.size w w1) (h2 : w1.alloc (.cells #[.slice none 0 0, .slice none 0 0, .slice none 0 0, .slice none 0 0] 72) = w2) :
    PZ (.slice none 0 0) w.heap.size [] p w1.heap.size [] [] [] [] w2 ∧ Below w.heap.size w w2 := by
  have hlt := h.lt
  have hs := hb.size
  have hb2 : Below w1.heap.size w1 w2 := by rw [← h2]; exact (Below.refl _ _).alloc (Nat.le_refl _) _
  have hq : w2.heap[w1.heap.size]? = some (.cells #[.slice none 0 0, .slice none 0 0, .slice none 0 0, .slice none 0 0] 72 (0, 0)) := by rw [← h2]; exact heap_alloc_new w1 _
  have hr : ∀ E k, w2.ownsRow 0 E k (.slice none 0 0) 0 [] := fun E k => ⟨(Nat.zero_mul k).symm, .inl ⟨rfl, rfl⟩⟩
  refine ⟨⟨F, [w1.heap.size], ⟨h.below hb2, ⟨.slice none 0 0, [w1.heap.size], ⟨.slice none 0 0, .slice none 0 0, hq, hr _ _, hr _ _, rfl, by simp⟩, hr _ _, by simp [Value.ownBlock], by simp⟩, fun y hy e => ?_, fun y hy => ⟨hF y hy, by simp⟩, fun y hy => ?_, by have := hb2.size; omega, by simp⟩⟩, hb.trans (hb2.mono hs)⟩
  · have := hlt y hy; simp at e; omega
  · simp at hy; subst hy; exact ⟨hs, by simp⟩
theorem eqIntRows_any (l : List Int) (v v' : Value) (w : World) (hl : l.length ≤ 60) (h : w.ownsRow 0 3 1 v l.length (ints l)) (h' : w.ownsRow 0 3 1 v' l.length (ints l)) :
    Calls Try.prog 29 #[v, v'] w fun e w' => e = .returned (.bool true) ∧ Below w.heap.size w w' := by
  obtain ⟨A, c, rfl, hc, hA⟩ := own_lies h
  obtain ⟨A', c', rfl, hc', hA'⟩ := own_lies h'
  have := eqInt_any A c A' c' l l _ _ w (by omega) (by omega) hA hA'
  rw [eqB_self] at this
  exact this.mono fun e w' ⟨h1, h2⟩ => ⟨h1, by rw [← h2]; exact Below.refl _ _⟩
section
variable {vB : Value} {Lo : Nat} {Z : List Nat} {p q : Nat} {sl sl' : Sl} {L L' : List Rw} {w : World}
theorem pz_slots (h : PZ vB Lo Z p q sl L sl' L' w) : p < w.heap.size ∧ ∃ ps FS, w.cell? ⟨p, 0, none⟩ = some (.pointer (some ⟨ps, 0, none⟩)) ∧ RepS w ps sl FS := by
  obtain ⟨F, G, h⟩ := h
  obtain ⟨ps, mt, mp, tb, rw, pl, FS, Fs, c, hW, -, -, -⟩ := h.a
  have e0 := blk_cell hW.blk 0
  simp only [List.getElem?_toArray, List.getElem?_cons_zero, List.getElem?_cons_succ] at e0
  exact ⟨blk_lt hW.blk, ps, FS, e0, hW.sl⟩
theorem pz_gens (h : PZ vB Lo Z p q sl L sl' L' w) : q < w.heap.size ∧ ∃ vg, w.cell? ⟨q, 0, none⟩ = some vg ∧ w.ownsRow 0 3 1 vg sl'.length (ints (gensS sl')) := by
  obtain ⟨F, G, h⟩ := h
  obtain ⟨vL, FS, ⟨vg, vl, h1, h2, -⟩, -⟩ := h.b
  have e0 := blk_cell h1 0
  simp only [List.getElem?_toArray, List.getElem?_cons_zero, List.getElem?_cons_succ] at e0
  exact ⟨blk_lt h1, vg, e0, h2⟩
end
end Go.Proofs.Ytkcpmoinpdojjaa

/- Closed facts on the translated program that every law's row asks. -/
namespace Go.Proofs.Ytkcpmoinpdojjaa
open Go
theorem own_ : ownKnob Try.prog.godebug = none := by kernel_rfl
theorem laid_ : laidOutB Try.prog = true := by kernel_rfl
theorem mapsRowed_ : mapsRowed Try.prog = true := by kernel_rfl
theorem stops_ : (Try.prog.stops == []) = true := by kernel_rfl
theorem stopKnobs_ : (Try.prog.stopKnobs == []) = true := by kernel_rfl
theorem plainKeys_ : (false == Try.prog.plainKeys) = true := by kernel_rfl
theorem stopsHeard_ : Try.prog.stopsHeard = true := by kernel_rfl
theorem mayEnter_ : Try.prog.mayEnter = true := by kernel_rfl
theorem liftsFinal_ : (false == Try.prog.liftsFinal) = true := by kernel_rfl
theorem make_ : (Try.prog.make == some .cut) = true := by kernel_rfl
theorem and_intro {a b : Bool} (ha : a = true) (hb : b = true) : (a && b) = true := by rw [ha, hb]; rfl
end Go.Proofs.Ytkcpmoinpdojjaa

/- Maps whose keys are handles. -/
namespace Go.Proofs.Ytkcpmoinpdojjaa
open Go Go.RowKit Go.Maps

def HdR (h : Hd) : Prop := InR h.1 ∧ InR h.2
def hdV (h : Hd) : Value := .agg (handleC h).toArray
theorem hdV_inj {a b : Hd} (h : hdV a = hdV b) : a = b := by
  have h1 : (handleC a).toArray = (handleC b).toArray := Value.agg.inj h
  have h2 : handleC a = handleC b := by simpa using congrArg Array.toList h1
  unfold handleC at h2
  simp only [List.cons.injEq, Value.int.injEq, true_and, and_true] at h2
  exact Prod.ext h2.1 h2.2
theorem hd_keyed : Keyed Try.prog 45 :=
  Keyed.of_law (deep_law_laid laid_ (m := 3) (by decide) (of_decide_eq_true (by kernel_rfl)) (by kernel_rfl) (by rw [Try.underlying45]))
theorem wf_of_inR {z : Int} (h : InR z) : (Lit.int .i64 z).wf = true := by
  unfold InR at h
  simp [Lit.wf, IntKind.min, IntKind.max, IntKind.bits, IntKind.signed]
  omega
theorem hd_lits (s g : Int) (hs : InR s) (hg : InR g) (d : Nat) : Try.prog.keyLits (d + 2) 45 [.int .i64 s, .int .i64 g] = some [.int .i64 s, .int .i64 g] := by
  have h1 : ∀ z : Int, InR z → Try.prog.keyLits (d + 1) 3 [.int .i64 z] = some [.int .i64 z] := fun z hz => by
    unfold Program.keyLits
    rw [Try.underlying3]
    simp [wf_of_inR hz]
  unfold Program.keyLits
  rw [Try.underlying45]
  simp only []
  have hc : Try.prog.cellsOf 3 = 1 := by kernel_rfl
  have hC : Try.prog.cellsOf 45 = 2 := by kernel_rfl
  simp [hc, hC, h1 s hs, h1 g hg]
theorem hd_key {h : Hd} (hr : HdR h) : ∃ kl, keyOf Try.prog 45 (hdV h) = some kl := by
  obtain ⟨s, g⟩ := h
  have h1 : (Try.prog.keyType 45 && (hdV (s, g)).formed Try.prog 45) = true := by kernel_rfl
  obtain ⟨d, hd⟩ : ∃ d, Try.prog.types.size + 1 = d + 2 := ⟨Try.prog.types.size - 1, by have : 0 < Try.prog.types.size := of_decide_eq_true (by kernel_rfl); omega⟩
  unfold keyOf
  rw [Try.underlying45]
  simp only [h1, if_true]
  rw [hd, show (hdV (s, g)).cells.toList = [.int .i64 s, .int .i64 g] from rfl, hd_lits s g hr.1 hr.2]
  exact ⟨_, rfl⟩

/-- Entries whose keys are handles. -/
structure HdKeys {β : Type} (enc : Hd × β → Value × Value) : Prop where
  key : ∀ x, (enc x).1 = hdV x.1
section
variable {β : Type} {enc : Hd × β → Value × Value} {w : World} {b : Nat} {l : List (Hd × β)} {t e : TypeId} {k : Hd}
theorem mh_apart (K : HdKeys enc) (h : MapAt Try.prog 45 w b (l.map enc)) : l.Pairwise (fun x y => x.1 ≠ y.1) := by
  obtain ⟨es, clock, -, hok⟩ := h
  have := hok.apart
  rw [List.pairwise_map] at this
  exact this.imp fun {x y} hne e => hne (by rw [K.key, K.key, e])
theorem mh_ne (K : HdKeys enc) (hn : ∀ x ∈ l, x.1 ≠ k) : ∀ p ∈ l.map enc, p.1 ≠ hdV k := by
  intro p hp e
  obtain ⟨x, hx, rfl⟩ := List.mem_map.1 hp
  rw [K.key] at e
  exact hn x hx (hdV_inj e)
theorem mh_in (K : HdKeys enc) (ht : Try.prog.underlying t = some (.map 45 e)) (h : MapAt Try.prog 45 w b (l.map enc)) (hr : HdR k) {v : β} (hm : (k, v) ∈ l) (c : Bool) :
    (Instr.lookup t (.map (some b)) (hdV k) c).run Try.prog w = .ok (if c then .tuple #[(enc (k, v)).2, .bool true] else (enc (k, v)).2) w := by
  obtain ⟨kl, hk⟩ := hd_key hr
  refine h.look_in hd_keyed ht hk ?_ c
  have : enc (k, v) ∈ l.map enc := List.mem_map.2 ⟨_, hm, rfl⟩
  rw [show enc (k, v) = (hdV k, (enc (k, v)).2) from Prod.ext (K.key _) rfl] at this
  exact this
theorem mh_out (K : HdKeys enc) (ht : Try.prog.underlying t = some (.map 45 e)) {z : Value} (hz : (zeroValue e).run Try.prog w = .ok z w) (h : MapAt Try.prog 45 w b (l.map enc)) (hr : HdR k) (hn : ∀ x ∈ l, x.1 ≠ k) (c : Bool) :
    (Instr.lookup t (.map (some b)) (hdV k) c).run Try.prog w = .ok (if c then .tuple #[z, .bool false] else z) w := by
  obtain ⟨kl, hk⟩ := hd_key hr
  exact h.look_out hd_keyed ht hz hk (mh_ne K hn) c
theorem mh_split (h : l.Pairwise (fun x y => x.1 ≠ y.1)) {v : β} (hm : (k, v) ∈ l) : ∃ l1 l2, l = l1 ++ (k, v) :: l2 ∧ l.filter (fun x => decide (x.1 ≠ k)) = l1 ++ l2 := by
  obtain ⟨l1, l2, rfl⟩ := List.append_of_mem hm
  refine ⟨l1, l2, rfl, ?_⟩
  rw [List.pairwise_append, List.pairwise_cons] at h
  obtain ⟨-, ⟨h2, -⟩, h3⟩ := h
  rw [List.filter_append, List.filter_cons]
  simp only [ne_eq, not_true, decide_false, Bool.false_eq_true, if_false]
  congr 1
  · exact List.filter_eq_self.2 fun x hx => by simpa using h3 x hx (k, v) (by simp)
  · exact List.filter_eq_self.2 fun x hx => by simpa using (h2 x hx).symm
theorem mh_upd (K : HdKeys enc) (ht : Try.prog.underlying t = some (.map 45 e)) (h : MapAt Try.prog 45 w b (l.map enc)) (hr : HdR k) (v : β) :
    ∃ (w' : World) (l' : List (Hd × β)), (Instr.mapUpdate t (.map (some b)) (hdV k) (enc (k, v)).2).run Try.prog w = .ok () w' ∧ MapAt Try.prog 45 w' b (l'.map enc) ∧ l'.Perm ((k, v) :: l.filter (fun x => decide (x.1 ≠ k))) ∧ Mod [b] w w' ∧ w'.heap.size = w.heap.size := by
  obtain ⟨kl, hk⟩ := hd_key hr
  have hap := mh_apart K h
  have hkv : enc (k, v) = (hdV k, (enc (k, v)).2) := Prod.ext (K.key _) rfl
  by_cases hin : ∃ v0, (k, v0) ∈ l
  · obtain ⟨v0, hv0⟩ := hin
    obtain ⟨l1, l2, rfl, hf⟩ := mh_split hap hv0
    rw [List.map_append, List.map_cons, show enc (k, v0) = (hdV k, (enc (k, v0)).2) from Prod.ext (K.key _) rfl] at h
    obtain ⟨w', h1, h2, h3⟩ := h.put_old hd_keyed ht hk (enc (k, v)).2
    refine ⟨w', l1 ++ (k, v) :: l2, h1, ?_, ?_, h3⟩
    · rw [List.map_append, List.map_cons, hkv]; exact h2
    · rw [hf]; exact List.perm_middle
  · have hn : ∀ x ∈ l, x.1 ≠ k := fun x hx e => hin ⟨x.2, by rw [← e]; exact hx⟩
    obtain ⟨w', h1, h2, h3⟩ := h.put_new hd_keyed ht hk (mh_ne K hn) (enc (k, v)).2
    refine ⟨w', l ++ [(k, v)], h1, ?_, ?_, h3⟩
    · rw [List.map_append, List.map_cons, List.map_nil, hkv]; exact h2
    · rw [List.filter_eq_self.2 (fun x hx => by simpa using hn x hx)]
      exact List.perm_append_singleton _ _
theorem mh_del {ty : TypeId} (K : HdKeys enc) (ht : Try.prog.underlying t = some (.map 45 e)) (h : MapAt Try.prog 45 w b (l.map enc)) (hr : HdR k) {v0 : β} (hm : (k, v0) ∈ l) :
    ∃ (w' : World) (l' : List (Hd × β)), (Builtin.delete_ #[t, 45] ty #[.map (some b), hdV k]).run Try.prog w = .ok (.tuple #[]) w' ∧ MapAt Try.prog 45 w' b (l'.map enc) ∧ l' = l.filter (fun x => decide (x.1 ≠ k)) ∧ Mod [b] w w' ∧ w'.heap.size = w.heap.size := by
  obtain ⟨kl, hk⟩ := hd_key hr
  obtain ⟨l1, l2, rfl, hf⟩ := mh_split (mh_apart K h) hm
  rw [List.map_append, List.map_cons, show enc (k, v0) = (hdV k, (enc (k, v0)).2) from Prod.ext (K.key _) rfl] at h
  obtain ⟨w', h1, h2, h3⟩ := h.del_in (ty := ty) hd_keyed ht hk
  exact ⟨w', l1 ++ l2, h1, by rw [List.map_append]; exact h2, hf.symm, h3⟩
end

/-! 'range' over a map; an entry that has come may be deleted. -/
section
variable {P : Program} {kt : TypeId} {w : World} {b r : Nat} {l todo : List (Value × Value)}
theorem RangeAt.map (h : RangeAt P kt w b r l todo) : MapAt P kt w b l := by
  obtain ⟨es, clock, since, seen, c0, h1, h2, -⟩ := h
  exact ⟨es, clock, h1, h2⟩
theorem RangeAt.ne (h : RangeAt P kt w b r l todo) : b ≠ r := by
  obtain ⟨es, clock, since, seen, c0, h1, h2, h3, -⟩ := h
  rintro rfl; rw [h1] at h3; cases h3
theorem filter_erase {α : Type} (q : α → Bool) : ∀ (l : List α) (j : Nat) (x : α), l[j]? = some x → q x = false → (l.eraseIdx j).filter q = l.filter q
  | [], j, x, h, _ => by simp at h
  | y :: l, 0, x, h, hq => by
    simp only [List.getElem?_cons_zero, Option.some.injEq] at h
    subst h
    simp [hq]
  | y :: l, j + 1, x, h, hq => by
    simp only [List.getElem?_cons_succ] at h
    rw [List.eraseIdx_cons_succ, List.filter_cons, List.filter_cons, filter_erase q l j x h hq]
theorem RangeAt.del {t e ty : TypeId} {key : Value} {kl : Lit} (K : Keyed P kt) (ht : P.underlying t = some (.map kt e)) {l1 l2 : List (Value × Value)} {v0 : Value} (h : RangeAt P kt w b r (l1 ++ (key, v0) :: l2) todo) (hkey : keyOf P kt key = some kl) (hn : (key, v0) ∉ todo) :
    ∃ w', (Builtin.delete_ #[t, kt] ty #[.map (some b), key]).run P w = .ok (.tuple #[]) w' ∧ RangeAt P kt w' b r (l1 ++ l2) todo ∧ Mod [b] w w' ∧ w'.heap.size = w.heap.size := by
  have hbr := h.ne
  obtain ⟨es, clock, since, seen, c0, hb, hok, h3, h4, h5, h7, h6⟩ := h
  rcases K.find w hkey es.toList hok.keys with ⟨_, h2⟩ | ⟨j, e0, f1, f2, f3⟩
  · have hv : (key, v0) ∈ prs es := by rw [hok.prs]; simp
    obtain ⟨x, hx, hx2⟩ := List.mem_map.1 hv
    exact absurd (congrArg Prod.fst hx2) (h2 x hx)
  · obtain ⟨rfl, hv0⟩ := split_at hok f2 f3
    have hjs : l1.length < es.size := by have := (List.getElem?_eq_some_iff.1 f2).1; simpa using this
    have hsub : (es.eraseIdxIfInBounds l1.length).toList = es.toList.eraseIdx l1.length := by
      unfold Array.eraseIdxIfInBounds
      rw [dif_pos hjs]
      simp
    have hseen : (!seen.contains e0.born) = false := by
      cases hq : (!seen.contains e0.born) with
      | false => rfl
      | true =>
        refine absurd ?_ hn
        rw [← h6]
        refine List.mem_map.2 ⟨e0, ?_, by rw [f3, hv0]⟩
        unfold leftOf
        rw [Array.toList_filter]
        exact List.mem_filter.2 ⟨List.mem_of_getElem? f2, hq⟩
    refine ⟨ChangeMaps.setBlock w b (.map (es.eraseIdxIfInBounds l1.length) clock), ?_, ⟨_, clock, since, seen, c0, setBlock_same hb, ⟨MapKept.stamped_erase hok.st _, ?_, ?_⟩, ?_, ?_, h5, h7, ?_⟩, setBlock_mod _ _ _, setBlock_size _ _ _⟩
    · simp [Builtin.delete_, run_underlying ht, MapKept.run_getObj_map hb, K.check w _ hkey, f1, MapKept.run_setObj_map _ hb, Result.andThen, ChangeMaps.setBlock]
    · intro x hx
      rw [hsub] at hx
      exact hok.keys x ((List.eraseIdx_sublist _ _).subset hx)
    · have := hok.prs
      unfold prs at this ⊢
      rw [hsub, ChangeMaps.map_eraseIdx, this, List.eraseIdx_append_of_length_le (Nat.le_refl _), Nat.sub_self]
      rfl
    · rw [setBlock_ne (Ne.symm hbr)]; exact h3
    · intro x hx
      rw [hsub] at hx
      exact h4 x ((List.eraseIdx_sublist _ _).subset hx)
    · rw [← h6]
      unfold prs leftOf
      rw [Array.toList_filter, Array.toList_filter, hsub, filter_erase _ _ _ e0 f2 hseen]
theorem RangeAt.nextE {α : Type} {enc : α → Value × Value} {ts : List α} (h : RangeAt P kt w b r l (ts.map enc)) (hne : ts ≠ []) :
    ∃ t1 x t2 w', ts = t1 ++ x :: t2 ∧ (∀ ty, (Instr.next (.pointer (some ⟨r, 0, none⟩)) false ty).run P w = .ok (.tuple #[.bool true, (enc x).1, (enc x).2]) w') ∧
      (Instr.entry (.pointer (some ⟨r, 0, none⟩))).run P w' = .ok (.tuple #[(enc x).1, (enc x).2]) w' ∧ enc x ∈ l ∧ RangeAt P kt w' b r l ((t1 ++ t2).map enc) ∧ Mod [r] w w' ∧ w'.heap.size = w.heap.size := by
  obtain ⟨t1, p, t2, w', he, hp, hn, hen, hr, hm, hs⟩ := h.next (by simpa using hne) 0
  obtain ⟨a, c, rfl, rfl, hc⟩ := List.map_eq_append_iff.1 he
  obtain ⟨x, t, rfl, rfl, rfl⟩ := List.map_eq_cons_iff.1 hc
  refine ⟨a, x, t, w', rfl, fun ty => ?_, hen, hp, by rw [List.map_append]; exact hr, hm, hs⟩
  have : (Instr.next (.pointer (some ⟨r, 0, none⟩)) false ty) = (Instr.next (.pointer (some ⟨r, 0, none⟩)) false 0) := rfl
  rw [this]; exact hn
end
end Go.Proofs.Ytkcpmoinpdojjaa
