import Derived.ProofKit
import Derived.OpenShut
import Derived.Deep.Slices
import Derived.Test.YtkcpmoinpdojjaaWorldLoadsJ2
import Derived.Test.YtkcpmoinpdojjaaWorldLoadsJ1
import Derived.Test.YtkcpmoinpdojjaaProg
import Derived.Test.YtkcpmoinpdojjaaWorldLoadsJ8
import Derived.Below
import Derived.Carry
import Derived.SizedLaws
import Derived.Test.YtkcpmoinpdojjaaWorldLoadsJ26
import Derived.Test.YtkcpmoinpdojjaaChecked
import Derived.JoinedOf
import Derived.KernelRfl
import Derived.Test.YtkcpmoinpdojjaaWorldLoadsJ7
/- Arguments whose cells are all integers: opened to lists. -/
namespace Go.Proofs.Ytkcpmoinpdojjaa
open Go Go.ChangeShapes Go.WideShapes Go.RowKit

/-- Whatever reads at this type is laid out as 64-bit integers. -/
def IntCells (P : Program) (t : TypeId) : Prop :=
  ∀ {H : Type} {enc : TypeId × Value → H} {w : World} {base : Nat} {sp : Nat → Bool} {held : Bool} {fuel : Nat} {cs : List Value} {x : DataW H × List MemPlace},
    DataW.trod enc P w base sp held fuel t cs = some x → cs.length = P.cellsOf t ∧ ∀ u ∈ cs, ∃ z, u = .int .i64 z ∧ InR z

theorem inR_of_wf {z : Int} (h : (Lit.int .i64 z).wf = true) : InR z := by
  simp [Lit.wf, IntKind.min, IntKind.max, IntKind.bits, IntKind.signed] at h
  unfold InR
  omega

section
variable {P : Program} {t e : TypeId}
theorem IntCells.int (ht : P.underlying t = some (.int .i64)) (hC : P.cellsOf t = 1) : IntCells P t := by
  intro H enc w base sp held fuel cs x h
  obtain ⟨n, rfl, _, hw⟩ := DataW.trod_int ht h
  refine ⟨by rw [hC]; rfl, fun u hu => ?_⟩
  simp at hu
  exact ⟨n, hu, inR_of_wf hw⟩

theorem IntCells.struct {fs : Array Field} (ht : P.underlying t = some (.struct fs))
    (hc : ((List.range (P.cellsOf t)).all fun c => fs.any fun f => decide (f.offset ≤ c) && decide (c < f.offset + P.cellsOf f.type)) = true)
    (hf : ∀ f ∈ fs, IntCells P f.type) : IntCells P t := by
  intro H enc w base sp held fuel cs x h
  obtain ⟨xs, n, _, _, hlen, hxs, hg⟩ := DataW.trod_struct ht h
  refine ⟨hlen, fun u hu => ?_⟩
  obtain ⟨c, hcl, rfl⟩ := List.mem_iff_getElem.1 hu
  have := List.all_eq_true.1 hc c (by simp; omega)
  rw [Array.any_eq_true] at this
  obtain ⟨i, hi, hi2⟩ := this
  simp only [Bool.and_eq_true, decide_eq_true_eq] at hi2
  have h1 := hg i fs[i] (Array.getElem?_eq_getElem hi)
  have h2 : xs[i]? = some (xs[i]'(by omega)) := List.getElem?_eq_getElem (by omega)
  rw [h2] at h1
  refine ((hf fs[i] (Array.getElem_mem hi)) h1).2 _ ?_
  rw [List.mem_iff_getElem?]
  refine ⟨c - fs[i].offset, ?_⟩
  rw [List.getElem?_take, if_pos (by omega), List.getElem?_drop, show fs[i].offset + (c - fs[i].offset) = c by omega]
  exact List.getElem?_eq_getElem hcl

theorem IntCells.array {n : Nat} (ht : P.underlying t = some (.array n e)) (hC : P.cellsOf t = n * P.cellsOf e) (hpos : 0 < P.cellsOf e) (he : IntCells P e) : IntCells P t := by
  intro H enc w base sp held fuel cs x h
  obtain ⟨xs, m, _, _, hlen, hxs, hg⟩ := DataW.trod_array ht h
  refine ⟨hlen, fun u hu => ?_⟩
  obtain ⟨c, hcl, rfl⟩ := List.mem_iff_getElem.1 hu
  have hi : c / P.cellsOf e < n := by
    rw [Nat.div_lt_iff_lt_mul hpos]; omega
  have h1 := hg (c / P.cellsOf e) hi
  have h2 : xs[c / P.cellsOf e]? = some (xs[c / P.cellsOf e]'(by omega)) := List.getElem?_eq_getElem (by omega)
  rw [h2] at h1
  refine (he h1).2 _ ?_
  rw [List.mem_iff_getElem?]
  refine ⟨c % P.cellsOf e, ?_⟩
  rw [List.getElem?_take, if_pos (Nat.mod_lt _ hpos), List.getElem?_drop, Nat.mul_comm, Nat.div_add_mod]
  exact List.getElem?_eq_getElem hcl

theorem ints_of {cs : List Value} (h : ∀ u ∈ cs, ∃ z, u = .int .i64 z ∧ InR z) : ∃ zs : List Int, cs = ints zs ∧ ∀ z ∈ zs, InR z := by
  induction cs with
  | nil => exact ⟨[], rfl, by simp⟩
  | cons u cs ih =>
    obtain ⟨z, rfl, hz⟩ := h u (by simp)
    obtain ⟨zs, rfl, hzs⟩ := ih (fun u hu => h u (by simp [hu]))
    exact ⟨z :: zs, rfl, by simpa using ⟨hz, hzs⟩⟩

/-- A struct or an array by value. -/
theorem open_flat {H : Type} {enc : TypeId × Value → H} {W : World} {d : DataW H} {ps : List MemPlace} {cs : Array Value} (he : IntCells P t)
    (h : DataW.Trod enc P W 0 (fun _ => true) true t (.agg cs) d ps) : ∃ zs : List Int, cs = (ints zs).toArray ∧ zs.length = P.cellsOf t ∧ ∀ z ∈ zs, InR z := by
  obtain ⟨fuel, hf⟩ := h
  obtain ⟨hl, hz⟩ := he hf
  obtain ⟨zs, hzs, hr⟩ := ints_of hz
  have hcs : cs.toList = ints zs := hzs
  refine ⟨zs, by rw [← hcs], ?_, hr⟩
  have : (ints zs).length = P.cellsOf t := by rw [← hzs]; exact hl
  rwa [ints_length] at this

/-- A slice of such elements. -/
theorem open_slice_flat {H : Type} {enc : TypeId × Value → H} {W : World} {b : Nat} {r : Reach} {v : Value} {d : DataW H} {ps : List MemPlace} {B k : Nat} (ht : P.underlying t = some (.slice e))
    (he : IntCells P e) (hk : P.cellsOf e = k) (hpos : 0 < k) (hv : Value.okWide P W r b t v) (h : DataW.Trod enc P W 0 (fun _ => true) true t v d ps) (hlt : ∀ p ∈ ps, p.block < B) :
    ∃ (A : Option Addr) (n c : Nat) (zs : List Int), v = .slice A n c ∧ n ≤ c ∧ c ≤ 9223372036854775807 ∧ zs.length = n * k ∧ (∀ z ∈ zs, InR z) ∧ Lies W B A (ints zs) := by
  obtain ⟨a0, n0, c0, rfl⟩ := okWide_slice ht hv
  obtain ⟨fuel, hf⟩ := h
  rcases Go.Deep.open_slice ht hf with ⟨hcs, _⟩ | ⟨a, len, cap, m, n, D, Pl, hcs, _, hl, hm, hmm, hx, hi⟩
  · have : a0 = none ∧ n0 = 0 ∧ c0 = 0 := by simpa [Value.cells] using hcs
    obtain ⟨rfl, rfl, rfl⟩ := this
    exact ⟨none, 0, 0, [], rfl, by omega, by omega, by simp, by simp, Lies.nil _ _ _⟩
  · have : a0 = some a ∧ n0 = len ∧ c0 = cap := by simpa [Value.cells] using hcs
    obtain ⟨rfl, rfl, rfl⟩ := this
    simp only [if_true] at hmm
    subst hmm
    have hcell : ∀ j, j < n0 * k → ∃ z, W.cell? (a.add j) = some (.int .i64 z) ∧ InR z := by
      intro j hj
      have hij : j / k < n0 := by rw [Nat.div_lt_iff_lt_mul hpos]; omega
      obtain ⟨cs', hc', ht'⟩ := hi (j / k) (by omega)
      obtain ⟨_, hl', hat⟩ := World.cells?_some hc'
      obtain ⟨_, hz⟩ := he ht'
      rw [hk] at hat hl'
      have hjk : j % k < k := Nat.mod_lt _ hpos
      have h1 := hat (j % k) hjk
      rw [add_add_, Nat.mul_comm, Nat.div_add_mod] at h1
      have h2 : cs'[j % k]? = some (cs'[j % k]'(by omega)) := List.getElem?_eq_getElem (by omega)
      obtain ⟨z, hz1, hz2⟩ := hz _ (List.getElem_mem (by omega : j % k < cs'.length))
      rw [h2, hz1] at h1
      exact ⟨z, h1, hz2⟩
    have hblk : n0 * k ≠ 0 → a.block < B := by
      intro hne
      have hpos' : 0 < m * k := by
        have : 0 < n0 := Nat.pos_of_ne_zero fun e => hne (by simp [e])
        exact Nat.mul_pos (by omega) hpos
      have hmem : (MemPlace.cell a.block (a.off + 0)) ∈ ps := by
        have : ps = MemPlace.row a (m * P.cellsOf e) ++ (List.range m).flatMap Pl := (Prod.mk.inj hx).2
        rw [this, hk]
        refine List.mem_append.2 (.inl ?_)
        unfold MemPlace.row
        rw [List.mem_map]
        exact ⟨0, by simpa using hpos', rfl⟩
      exact hlt _ hmem
    let f : Nat → Int := fun j => match W.cell? (a.add j) with | some (.int .i64 z) => z | _ => 0
    have hf' : ∀ j, j < n0 * k → W.cell? (a.add j) = some (.int .i64 (f j)) ∧ InR (f j) := by
      intro j hj
      obtain ⟨z, h1, h2⟩ := hcell j hj
      have : f j = z := by simp only [f, h1]
      rw [this]; exact ⟨h1, h2⟩
    refine ⟨some a, n0, _, (List.range (n0 * k)).map f, rfl, hl, by simpa [maxLen] using hm, by simp, ?_, ?_⟩
    · intro z hz
      simp only [List.mem_map, List.mem_range] at hz
      obtain ⟨j, hj, rfl⟩ := hz
      exact (hf' j hj).2
    · intro j u hu
      simp only [ints, List.map_map, List.getElem?_map] at hu
      have hj : j < n0 * k := by
        rcases Nat.lt_or_ge j (n0 * k) with h | h
        · exact h
        · rw [List.getElem?_eq_none (by simpa using h)] at hu; cases hu
      rw [List.getElem?_range hj] at hu
      simp at hu
      subst hu
      exact ⟨a, rfl, hblk (by omega), (hf' j hj).1⟩
end
end Go.Proofs.Ytkcpmoinpdojjaa

/- Types whose cells are all integers. -/
namespace Go.Proofs.Ytkcpmoinpdojjaa
open Go

theorem intCells_int : IntCells Try.prog 3 := IntCells.int Try.underlying3 (by kernel_rfl)
theorem intCells_arr : IntCells Try.prog 22 := IntCells.array Try.underlying22 (by kernel_rfl) (of_decide_eq_true (by kernel_rfl)) intCells_int
theorem intCells_Query : IntCells Try.prog 26 := IntCells.struct Try.underlying26 (by kernel_rfl) (by
  intro f hf
  simp only [List.mem_toArray, List.mem_cons, List.not_mem_nil, or_false] at hf
  rcases hf with rfl | rfl | rfl <;> exact intCells_int)
theorem intCells_Beast : IntCells Try.prog 24 := IntCells.struct Try.underlying24 (by kernel_rfl) (by
  intro f hf
  simp only [List.mem_toArray, List.mem_cons, List.not_mem_nil, or_false] at hf
  rcases hf with rfl | rfl
  · exact intCells_int
  · exact intCells_arr)
theorem intCells_System : IntCells Try.prog 28 := IntCells.struct Try.underlying28 (by kernel_rfl) (by
  intro f hf
  simp only [List.mem_toArray, List.mem_cons, List.not_mem_nil, or_false] at hf
  rcases hf with rfl | rfl | rfl | rfl | rfl
  · exact intCells_Query
  all_goals exact intCells_int)
theorem intCells_Handle : IntCells Try.prog 45 := IntCells.struct Try.underlying45 (by kernel_rfl) (by
  intro f hf
  simp only [List.mem_toArray, List.mem_cons, List.not_mem_nil, or_false] at hf
  rcases hf with rfl | rfl <;> exact intCells_int)
end Go.Proofs.Ytkcpmoinpdojjaa

/- Slices of bools among the arguments; lists of pairs of integers. -/
namespace Go.Proofs.Ytkcpmoinpdojjaa
open Go Go.ChangeShapes Go.WideShapes Go.RowKit

theorem open_slice_bools {H : Type} {enc : TypeId × Value → H} {P : Program} {t e : TypeId} {W : World} {b : Nat} {r : Reach} {v : Value} {d : DataW H} {ps : List MemPlace} {B : Nat} (ht : P.underlying t = some (.slice e))
    (he : P.underlying e = some .bool) (hk : P.cellsOf e = 1) (hv : Value.okWide P W r b t v) (h : DataW.Trod enc P W 0 (fun _ => true) true t v d ps) (hlt : ∀ p ∈ ps, p.block < B) :
    ∃ (A : Option Addr) (n c : Nat) (zs : List Bool), v = .slice A n c ∧ n ≤ c ∧ c ≤ 9223372036854775807 ∧ zs.length = n ∧ Lies W B A (bools zs) := by
  obtain ⟨a0, n0, c0, rfl⟩ := okWide_slice ht hv
  obtain ⟨fuel, hf⟩ := h
  rcases Go.Deep.open_slice ht hf with ⟨hcs, _⟩ | ⟨a, len, cap, m, n, D, Pl, hcs, _, hl, hm, hmm, hx, hi⟩
  · have : a0 = none ∧ n0 = 0 ∧ c0 = 0 := by simpa [Value.cells] using hcs
    obtain ⟨rfl, rfl, rfl⟩ := this
    exact ⟨none, 0, 0, [], rfl, by omega, by omega, rfl, Lies.nil _ _ _⟩
  · have : a0 = some a ∧ n0 = len ∧ c0 = cap := by simpa [Value.cells] using hcs
    obtain ⟨rfl, rfl, rfl⟩ := this
    simp only [if_true] at hmm
    subst hmm
    have hcell : ∀ j, j < n0 → ∃ z, W.cell? (a.add j) = some (.bool z) := by
      intro j hj
      obtain ⟨cs', hc', ht'⟩ := hi j (by omega)
      obtain ⟨_, hl', hat⟩ := World.cells?_some hc'
      obtain ⟨z, hz1, _⟩ := DataW.trod_bool he ht'
      rw [hk] at hat hl'
      have h1 := hat 0 (by omega)
      rw [add_add_, Nat.mul_one, Nat.add_zero, hz1] at h1
      exact ⟨z, h1⟩
    have hblk : n0 ≠ 0 → a.block < B := by
      intro hne
      have hmem : (MemPlace.cell a.block (a.off + 0)) ∈ ps := by
        have : ps = MemPlace.row a (m * P.cellsOf e) ++ (List.range m).flatMap Pl := (Prod.mk.inj hx).2
        rw [this, hk]
        refine List.mem_append.2 (.inl ?_)
        unfold MemPlace.row
        rw [List.mem_map]
        exact ⟨0, by simp; omega, rfl⟩
      exact hlt _ hmem
    let f : Nat → Bool := fun j => match W.cell? (a.add j) with | some (.bool z) => z | _ => false
    have hf' : ∀ j, j < n0 → W.cell? (a.add j) = some (.bool (f j)) := by
      intro j hj
      obtain ⟨z, h1⟩ := hcell j hj
      have : f j = z := by simp only [f, h1]
      rw [this]; exact h1
    refine ⟨some a, n0, _, (List.range n0).map f, rfl, hl, by simpa [maxLen] using hm, by simp, ?_⟩
    intro j u hu
    simp only [bools, List.map_map, List.getElem?_map] at hu
    have hj : j < n0 := by
      rcases Nat.lt_or_ge j n0 with h | h
      · exact h
      · rw [List.getElem?_eq_none (by simpa using h)] at hu; cases hu
    rw [List.getElem?_range hj] at hu
    simp at hu
    subst hu
    exact ⟨a, rfl, hblk (by omega), hf' j hj⟩

def handleI (h : Int × Int) : List Int := [h.1, h.2]
theorem handleI_mk : ∀ zs : List Int, zs.length = 2 → ∃ x, handleI x = zs
  | [a, b], _ => ⟨(a, b), rfl⟩
theorem ints_flatMap {α : Type} (f : α → List Int) (l : List α) : ints (l.flatMap f) = l.flatMap fun x => ints (f x) := by
  unfold ints; rw [List.map_flatMap]
theorem Lies.bool {w : World} {B : Nat} {A : Option Addr} {zs : List Bool} (h : Lies w B A (bools zs)) {k : Nat} (hk : k < zs.length) :
    ∃ b o, A = some ⟨b, o, none⟩ ∧ b < B ∧ w.cell? ⟨b, o + k, none⟩ = some (.bool zs[k]) := by
  have h1 : Lies w B A (zs.flatMap boolC) := by rw [← bools_flat]; exact h
  obtain ⟨b, o, e, hb, hc⟩ := h1.rec_at (n := 1) (fun _ => rfl) (by omega) hk
  have := hc 0 _ rfl
  rw [Nat.mul_one, Nat.add_zero] at this
  exact ⟨b, o, e, hb, this⟩
end Go.Proofs.Ytkcpmoinpdojjaa

/- A law's statement out of its contract: the call returns true and nothing that was there has turned. -/
namespace Go.Proofs.Ytkcpmoinpdojjaa
open Go Go.ChangeShapes Go.WideShapes Go.ChangeAt Go.RowKit

theorem trodAll_stays {H : Type} {enc : TypeId × Value → H} {P : Program} (hl : laidOutB P = true) {W W' : World} (hB : Below W.heap.size W W') :
    ∀ (ts : List TypeId) (vs : List Value) (ds : List (DataW H)) (ps : List MemPlace), (∀ t ∈ ts, P.readableRec t = true ∧ t < P.types.size) → (∀ p ∈ ps, p.block < W.heap.size) →
      DataW.TrodAll enc P W 0 (fun _ => true) true ts vs ds ps → DataW.TrodAll enc P W' 0 (fun b => decide (b < W.heap.size)) true ts vs ds ps := by
  intro ts
  induction ts with
  | nil =>
    intro vs ds ps _ _ h
    cases vs <;> cases ds <;> first | exact h | exact h.elim
  | cons t ts ih =>
    intro vs ds ps hr hlt h
    cases vs with
    | nil => cases ds <;> exact h.elim
    | cons v vs =>
      cases ds with
      | nil => exact h.elim
      | cons d ds =>
        obtain ⟨p, q, h1, h2, rfl⟩ := h
        have ht := hr t (by simp)
        exact ⟨p, q, Below.trod hl ht.1 ht.2 h1 hB (fun x hx => hlt x (by simp [hx])),
          ih vs ds q (fun t' ht' => hr t' (by simp [ht'])) (fun x hx => hlt x (by simp [hx])) h2, rfl⟩

theorem trodAll_length {H : Type} {enc : TypeId × Value → H} {P : Program} {W : World} {b : Nat} {sp : Nat → Bool} {hd : Bool} :
    ∀ (ts : List TypeId) (vs : List Value) (ds : List (DataW H)) (ps : List MemPlace), DataW.TrodAll enc P W b sp hd ts vs ds ps → ds.length = ts.length := by
  intro ts
  induction ts with
  | nil => intro vs ds ps h; cases vs <;> cases ds <;> first | rfl | exact h.elim
  | cons t ts ih =>
    intro vs ds ps h
    cases vs with
    | nil => cases ds <;> exact h.elim
    | cons v vs =>
      cases ds with
      | nil => exact h.elim
      | cons d ds =>
        obtain ⟨p, q, _, h2, _⟩ := h
        simp [ih vs ds q h2]

/-- What a law's row asks behind the call. -/
theorem law_post {H : Type} {enc : TypeId × Value → H} {P : Program} {fn : Func} {s : ChangeSpec} {W W' : World} {args : Array Value} {ds gs : List (DataW H)} {before : List MemPlace} {tb : TypeId}
    (hl : laidOutB P = true) (hr : ∀ t ∈ fn.params.toList, P.readableRec t = true ∧ t < P.types.size) (hv : s.vars = []) (hres : fn.resultTypes = #[tb]) (hb : P.underlying tb = some .bool)
    (hspec : ∀ (ds : List (DataW H)), ds.length = fn.params.toList.length → s.fn H ds = { results := [.lit (.bool true)], args := ds })
    (hW : DataW.Whole enc P fn.params.toList s.vars false W args.toList ds gs before) (hB : Below W.heap.size W W') :
    s.post enc P fn false true false false W args (.bool true) W' := by
  have hlt := hW.lt
  have hW' := hW
  obtain ⟨p, q, hA, hV, rfl, _, _⟩ := hW
  rw [hv] at hV
  obtain ⟨rfl, rfl⟩ := trodVars_none hV
  have he : s.fn H (ds ++ []) = { results := [.lit (.bool true)], args := ds } := by
    rw [List.append_nil]; exact hspec ds (trodAll_length _ _ _ _ hA)
  refine ⟨ds, [], p ++ [], [], p, [], hW', ?_, ?_, ?_, hB.frame _, fun h => by cases h⟩
  · rw [he, hres]
    exact trodAll_mk1 (shut_bool hb true)
  · rw [he]
    exact trodAll_stays hl hB _ _ _ _ hr (fun x hx => hlt x (by simp [hx])) hA
  · rw [he, hv]
    exact rfl

/-- The contract that a law's row wants, out of one on values. -/
theorem law_lifted {H : Type} {enc : TypeId × Value → H} {C : Checked} {os : Os} (started : os.Started) {f : FuncId} {fn : Func} {s : ChangeSpec} {tb : TypeId}
    (own : ownKnob C.prog.godebug = none) (hl : laidOutB C.prog = true) (hno : C.prog.inits.idxOf? f = none) (hfn : C.prog.funcs[f]? = some fn)
    (hr : ∀ t ∈ fn.params.toList, C.prog.readableRec t = true ∧ t < C.prog.types.size) (hv : s.vars = []) (hres : fn.resultTypes = #[tb]) (hb : C.prog.underlying tb = some .bool)
    (hspec : ∀ (ds : List (DataW H)), ds.length = fn.params.toList.length → s.fn H ds = { results := [.lit (.bool true)], args := ds })
    (witness : ∃ (w : World) (tape : Tape) (i : Input), w.os = os ∧ (w.forCall tape i).Shaped C.prog ∧ i.vars = [] ∧ Input.okWide C.prog (w.forCall tape i) .any w.heap.size f i ∧
      s.pre6 enc C.prog fn [] false (w.forCall tape i).memory i.args ∧ Assume.holds {} C.prog (lone (Frame.enter C.prog f i.args .normal) [] (w.forCall tape i)))
    (hc : ∀ (W : World) (base : Nat) (args : Array Value) (ds : List (DataW H)) (ps : List MemPlace),
      (∀ (j : Nat) t v, fn.params[j]? = some t → args[j]? = some v → Value.okWide C.prog W .any base t v) →
      DataW.TrodAll enc C.prog W 0 (fun _ => true) true fn.params.toList args.toList ds ps → (∀ p ∈ ps, p.block < W.heap.size) →
      Calls C.prog f args W fun e W' => e = .returned (.bool true) ∧ Below W.heap.size W W') :
    ReturnsInHanded {} C os f .any (s.pre6 enc C.prog fn [] false) (s.post enc C.prog fn false true false false) := by
  refine returnsInHanded_of_change own started hno hfn witness ?_
  intro W base args ds gs before hval hW _ _
  have hlt := hW.lt
  have hW' := hW
  obtain ⟨p, q, hA, _, rfl, _, _⟩ := hW
  refine (hc W base args ds p hval hA (fun x hx => hlt x (by simp [hx]))).mono ?_
  rintro e W' ⟨rfl, hB⟩
  exact ⟨_, rfl, law_post hl hr hv hres hb hspec hW' hB⟩
#print axioms law_lifted
end Go.Proofs.Ytkcpmoinpdojjaa

/- A law's statement out of its contract, where the contract wants to know how large the arguments may be. -/
namespace Go.Proofs.Ytkcpmoinpdojjaa
open Go Go.ChangeShapes Go.WideShapes Go.ChangeAt Go.RowKit

theorem law_lifted_sized {H : Type} {enc : TypeId × Value → H} {C : Checked} {os : Os} (started : os.Started) {f : FuncId} {fn : Func} {s : ChangeSpec} {tb : TypeId}
    (own : ownKnob C.prog.godebug = none) (hl : laidOutB C.prog = true) (hno : C.prog.inits.idxOf? f = none) (hfn : C.prog.funcs[f]? = some fn)
    (hr : ∀ t ∈ fn.params.toList, C.prog.readableRec t = true ∧ t < C.prog.types.size) (hv : s.vars = []) (hres : fn.resultTypes = #[tb]) (hb : C.prog.underlying tb = some .bool)
    (hspec : ∀ (ds : List (DataW H)), ds.length = fn.params.toList.length → s.fn H ds = { results := [.lit (.bool true)], args := ds })
    (witness : ∃ (w : World) (tape : Tape) (i : Input), w.os = os ∧ (w.forCall tape i).Shaped C.prog ∧ i.vars = [] ∧ Input.okWide C.prog (w.forCall tape i) .any w.heap.size f i ∧
      s.pre6 enc C.prog fn [] false (w.forCall tape i).memory i.args ∧ Assume.holds {} C.prog (lone (Frame.enter C.prog f i.args .normal) [] (w.forCall tape i)))
    (hc : ∀ (W : World) (base : Nat) (args : Array Value) (ds : List (DataW H)) (ps : List MemPlace),
      (∀ (j : Nat) t v, fn.params[j]? = some t → args[j]? = some v → Value.okWide C.prog W .any base t v) →
      DataW.TrodAll enc C.prog W 0 (fun _ => true) true fn.params.toList args.toList ds ps → (∀ p ∈ ps, p.block < W.heap.size) →
      (∀ (j : Nat) t d, fn.params.toList[j]? = some t → ds[j]? = some d → ∀ m ∈ d.weights C.prog t, m ≤ reachBytes) →
      Calls C.prog f args W fun e W' => e = .returned (.bool true) ∧ Below W.heap.size W W') :
    ReturnsInHanded {} C os f .any (s.pre6 enc C.prog fn [] false) (s.post enc C.prog fn false true false false) := by
  refine returnsInHanded_of_change_sized own started hno hfn witness ?_
  intro W base args ds gs before hval hW _ hsz _
  have hlt := hW.lt
  have hW' := hW
  obtain ⟨p, q, hA, _, rfl, _, _⟩ := hW
  refine (hc W base args ds p hval hA (fun x hx => hlt x (by simp [hx])) ?_).mono ?_
  · intro j t d ht hd m hm
    have h1 : (fn.params.toList ++ s.plain.varTypes C.prog)[j]? = some t := by
      rw [List.getElem?_append_left (List.getElem?_eq_some_iff.1 ht).1]; exact ht
    have h2 : (ds ++ gs)[j]? = some d := by
      rw [List.getElem?_append_left (List.getElem?_eq_some_iff.1 hd).1]; exact hd
    have := List.all_eq_true.1 hsz m (DataW.weights_mem_each h1 h2 m hm)
    simpa using this
  · rintro e W' ⟨rfl, hB⟩
    exact ⟨_, rfl, law_post hl hr hv hres hb hspec hW' hB⟩

/-- How long a slice may be. -/
theorem slice_size {H : Type} {enc : TypeId × Value → H} {P : Program} {t e : TypeId} {W : World} {A : Option Addr} {n c : Nat} {d : DataW H} {ps : List MemPlace} (ht : P.underlying t = some (.slice e))
    (h : DataW.Trod enc P W 0 (fun _ => true) true t (.slice A n c) d ps) (hw : ∀ m ∈ d.weights P t, m ≤ reachBytes) : n * P.bytesOf e ≤ reachBytes := by
  obtain ⟨fuel, hf⟩ := h
  rcases Go.Deep.open_slice ht hf with ⟨hcs, _⟩ | ⟨a, len, cap, m, n', D, Pl, hcs, _, hl, hm, hmm, hx, hi⟩
  · have : n = 0 := by
      have : A = none ∧ n = 0 ∧ c = 0 := by simpa [Value.cells] using hcs
      exact this.2.1
    subst this
    simp
  · have : A = some a ∧ n = len ∧ c = cap := by simpa [Value.cells] using hcs
    obtain ⟨rfl, rfl, rfl⟩ := this
    have hd := (Prod.mk.inj hx).1
    have h1 := hw ((n + (m - n)) * P.bytesOf e) (by rw [hd]; simp [DataW.weights, ht])
    exact Nat.le_trans (Nat.mul_le_mul_right _ (by omega)) h1
/-- A nil slice has no elements. -/
theorem slice_none {P : Program} {t e : TypeId} {W : World} {b : Nat} {r : Reach} {n c : Nat} {H : Type} {enc : TypeId × Value → H} {d : DataW H} {ps : List MemPlace} (ht : P.underlying t = some (.slice e))
    (h : DataW.Trod enc P W 0 (fun _ => true) true t (.slice none n c) d ps) : n = 0 ∧ c = 0 := by
  obtain ⟨fuel, hf⟩ := h
  rcases Go.Deep.open_slice ht hf with ⟨hcs, _⟩ | ⟨a, len, cap, m, n', D, Pl, hcs, _⟩
  · simpa [Value.cells] using hcs
  · simp [Value.cells] at hcs
theorem reach_val : reachBytes = 140737488351232 := by decide
end Go.Proofs.Ytkcpmoinpdojjaa

/- Ops as sixteen numbers; the pair of a new world and a new zoo. (printed by mk_wdoes.py) -/
namespace Go.Proofs.Ytkcpmoinpdojjaa
open Go Go.RowKit Go.ChangeShapes Go.WideShapes Go.ChangeAt

/-- An op; its sixteen numbers. -/
abbrev Ov := Int × Bt × Hd × Hd × Int × Int
def opI (x : Ov) : List Int := [x.1] ++ (btI x.2.1 ++ (hdI x.2.2.1 ++ (hdI x.2.2.2.1 ++ [x.2.2.2.2.1, x.2.2.2.2.2])))
def opC (x : Ov) : List Value := ints (opI x)
theorem opC_len (x : Ov) : (opC x).length = 16 := rfl
theorem opC_one (x : Ov) : ∀ u ∈ opC x, u.oneCell' = true := ints_one _
theorem sz_Op (x : Ov) : (Try.prog.info? 74).map (·.size) = some (opC x).length := by rw [opC_len]; kernel_rfl
theorem opI_mk (zs : List Int) (h : zs.length = 16) : ∃ x, opI x = zs := by
  match zs, h with
  | [d, K, a0, a1, a2, a3, a4, a5, a6, a7, s, g, ts, tg, kd, n], _ => exact ⟨(d, (K, a0, a1, a2, a3, a4, a5, a6, a7), (s, g), (ts, tg), kd, n), rfl⟩
theorem intCells_Op : IntCells Try.prog 74 := IntCells.struct Try.underlying74 (by kernel_rfl) (by
  intro f hf
  simp only [List.mem_toArray, List.mem_cons, List.not_mem_nil, or_false] at hf
  rcases hf with rfl | rfl | rfl | rfl | rfl | rfl
  · exact intCells_int
  · exact intCells_Beast
  · exact intCells_Handle
  · exact intCells_Handle
  · exact intCells_int
  · exact intCells_int)
theorem killE_neg {sl : Sl} {L : List Rw} (h : WOk sl L) : killE L (-1, 0) = 7 := by
  unfold killE
  cases hi : idxL L (-1, 0) with
  | none => rfl
  | some i =>
    obtain ⟨hl, he⟩ := idx_some hi
    obtain ⟨s, -, h2⟩ := h.slot (List.getElem_mem hl)
    rw [he] at h2
    simp only at h2
    omega
theorem pz_start {w w1 w2 : World} {p : Nat} {F : List Nat} (h : RepW w1 p [] [] F) (hF : ∀ y ∈ F, w.heap.size ≤ y) (hb : Below w.heap.size w w1) (h2 : w1.alloc (.cells #[.slice none 0 0, .slice none 0 0, .slice none 0 0, .slice none 0 0] 72) = w2) :
    PZ (.slice none 0 0) w.heap.size [] p w1.heap.size [] [] [] [] w2 ∧ Below w.heap.size w w2 := by
  have hlt := h.lt
  have hs := hb.size
  have hb2 : Below w1.heap.size w1 w2 := by rw [← h2]; exact (Below.refl _ _).alloc (Nat.le_refl _) _
  have hq : w2.heap[w1.heap.size]? = some (.cells #[.slice none 0 0, .slice none 0 0, .slice none 0 0, .slice none 0 0] 72 (0, 0)) := by rw [← h2]; exact heap_alloc_new w1 _
  have hr : ∀ E k, w2.ownsRow 0 E k (.slice none 0 0) 0 [] := fun E k => ⟨(Nat.zero_mul k).symm, .inl ⟨rfl, rfl⟩⟩
  refine ⟨⟨F, [w1.heap.size], ⟨h.below hb2, ⟨.slice none 0 0, [w1.heap.size], ⟨.slice none 0 0, .slice none 0 0, hq, hr _ _, hr _ _, rfl, by simp⟩, hr _ _, by simp [Value.ownBlock], by simp⟩, fun y hy e => ?_, fun y hy => ⟨hF y hy, by simp⟩, fun y hy => ?_, by have := hb2.size; omega, by simp⟩⟩, hb.trans (hb2.mono hs)⟩
  · have := hlt y hy; simp at e; omega
  · simp at hy; subst hy; exact ⟨hs, by simp⟩
theorem eqIntRows_any (l : List Int) (v v' : Value) (w : World) (hl : l.length ≤ 60) (h : w.ownsRow 0 3 1 v l.length (ints l)) (h' : w.ownsRow 0 3 1 v' l.length (ints l)) :
    Calls Try.prog 29 #[v, v'] w fun e w' => e = .returned (.bool true) ∧ Below w.heap.size w w' := by
  obtain ⟨A, c, rfl, hc, hA⟩ := own_lies h
  obtain ⟨A', c', rfl, hc', hA'⟩ := own_lies h'
  have := eqInt_any A c A' c' l l _ _ w (by omega) (by omega) hA hA'
  rw [eqB_self] at this
  exact this.mono fun e w' ⟨h1, h2⟩ => ⟨h1, by rw [← h2]; exact Below.refl _ _⟩
section
variable {vB : Value} {Lo : Nat} {Z : List Nat} {p q : Nat} {sl sl' : Sl} {L L' : List Rw} {w : World}
theorem pz_slots (h : PZ vB Lo Z p q sl L sl' L' w) : p < w.heap.size ∧ ∃ ps FS, w.cell? ⟨p, 0, none⟩ = some (.pointer (some ⟨ps, 0, none⟩)) ∧ RepS w ps sl FS := by
  obtain ⟨F, G, h⟩ := h
  obtain ⟨ps, mt, mp, tb, rw, pl, FS, Fs, c, hW, -, -, -⟩ := h.a
  have e0 := blk_cell hW.blk 0
  simp only [List.getElem?_toArray, List.getElem?_cons_zero, List.getElem?_cons_succ] at e0
  exact ⟨blk_lt hW.blk, ps, FS, e0, hW.sl⟩
theorem pz_gens (h : PZ vB Lo Z p q sl L sl' L' w) : q < w.heap.size ∧ ∃ vg, w.cell? ⟨q, 0, none⟩ = some vg ∧ w.ownsRow 0 3 1 vg sl'.length (ints (gensS sl')) := by
  obtain ⟨F, G, h⟩ := h
  obtain ⟨vL, FS, ⟨vg, vl, h1, h2, -⟩, -⟩ := h.b
  have e0 := blk_cell h1 0
  simp only [List.getElem?_toArray, List.getElem?_cons_zero, List.getElem?_cons_succ] at e0
  exact ⟨blk_lt h1, vg, e0, h2⟩
end
end Go.Proofs.Ytkcpmoinpdojjaa

/- Closed facts on the translated program that every law's row asks. -/
namespace Go.Proofs.Ytkcpmoinpdojjaa
open Go
theorem own_ : ownKnob Try.prog.godebug = none := by kernel_rfl
theorem laid_ : laidOutB Try.prog = true := by kernel_rfl
theorem mapsRowed_ : mapsRowed Try.prog = true := by kernel_rfl
theorem stops_ : (Try.prog.stops == []) = true := by kernel_rfl
theorem stopKnobs_ : (Try.prog.stopKnobs == []) = true := by kernel_rfl
theorem plainKeys_ : (false == Try.prog.plainKeys) = true := by kernel_rfl
theorem stopsHeard_ : Try.prog.stopsHeard = true := by kernel_rfl
theorem mayEnter_ : Try.prog.mayEnter = true := by kernel_rfl
theorem liftsFinal_ : (false == Try.prog.liftsFinal) = true := by kernel_rfl
theorem make_ : (Try.prog.make == some .cut) = true := by kernel_rfl
theorem and_intro {a b : Bool} (ha : a = true) (hb : b = true) : (a && b) = true := by rw [ha, hb]; rfl
end Go.Proofs.Ytkcpmoinpdojjaa

/- The program's Load: its closures and searches. -/
namespace Go.Proofs.Ytkcpmoinpdojjaa
open Go.RowKit

def badN (x : Int) : Bool := decide (x < 0) || decide (1000000 < x)
def badK (n : Nat) (x : Int) : Bool := decide (x < 0) || decide ((n : Int) ≤ x)
def anyP (p : Int → Bool) (l : List Int) : Bool := (l.findIdx? p).isSome
theorem badN_lo {x : Int} (h : x < 0) : badN x = true := by simp [badN, h]
theorem badN_hi {x : Int} (h : 1000000 < x) : badN x = true := by simp [badN, h]
theorem badN_in {x : Int} (h : 0 ≤ x) (h' : x ≤ 1000000) : badN x = false := by simp [badN]; omega
theorem badK_lo {n : Nat} {x : Int} (h : x < 0) : badK n x = true := by simp [badK, h]
theorem badK_hi {n : Nat} {x : Int} (h : (n : Int) ≤ x) : badK n x = true := by simp [badK, h]
theorem badK_in {n : Nat} {x : Int} (h : 0 ≤ x) (h' : x < n) : badK n x = false := by simp [badK]; omega

theorem load1_any (x : Int) (w : World) : Calls Try.prog 160 #[.int .i64 x] w fun e w' => e = .returned (.bool (badN x)) ∧ w = w' := by
  by_cases h0 : x < 0
  · have H := Lib.hid (badN_lo h0)
    go_enter Try.func160, Try.ntmps160
    go_wp2
    go_ret
    exact ⟨by rw [H.out]; rfl, rfl⟩
  · by_cases h1 : 1000000 < x
    · have H := Lib.hid (badN_hi h1)
      go_enter Try.func160, Try.ntmps160
      go_wp2
      go_ret
      exact ⟨by rw [H.out]; rfl, rfl⟩
    · have H := Lib.hid (badN_in (x := x) (by omega) (by omega))
      go_enter Try.func160, Try.ntmps160
      go_wp2
      go_ret
      exact ⟨by rw [H.out]; rfl, rfl⟩
theorem load2_any (x : Int) (b : Nat) (A : Option Addr) (n c : Nat) (w : World) (hb : w.cell? ⟨b, 0, none⟩ = some (.slice A n c)) (hn : n ≤ 9223372036854775807) :
    Calls Try.prog 161 #[.int .i64 x, .pointer (some ⟨b, 0, none⟩)] w fun e w' => e = .returned (.bool (badK n x)) ∧ w = w' := by
  by_cases h0 : x < 0
  · have H := Lib.hid (badK_lo (n := n) h0)
    go_enter Try.func161, Try.ntmps161
    go_wp2
    go_ret
    exact ⟨by rw [H.out]; rfl, rfl⟩
  · by_cases h1 : (n : Int) ≤ x
    · have H := Lib.hid (badK_hi h1)
      go_enter Try.func161, Try.ntmps161
      go_wp2
      go_ret
      exact ⟨by rw [H.out]; rfl, rfl⟩
    · have H := Lib.hid (badK_in (n := n) (x := x) (by omega) (by omega))
      go_enter Try.func161, Try.ntmps161
      go_wp2
      go_ret
      exact ⟨by rw [H.out]; rfl, rfl⟩

theorem anyP_cases (p : Int → Bool) (l : List Int) : (anyP p l = true ∧ ∃ k : Nat, firstI p l = k) ∨ (anyP p l = false ∧ firstI p l = -1) := by
  unfold anyP firstI
  cases h : l.findIdx? p with
  | some k => exact .inl ⟨rfl, k, rfl⟩
  | none => exact .inr ⟨rfl, rfl⟩
theorem anyP_false {p : Int → Bool} {l : List Int} (h : anyP p l = false) {k : Nat} (hk : k < l.length) : p l[k] = false := by
  unfold anyP at h
  rw [Option.isSome_eq_false_iff, Option.isNone_iff_eq_none, List.findIdx?_eq_none_iff] at h
  exact h _ (List.getElem_mem hk)
theorem anyP_of {p : Int → Bool} {l : List Int} {k : Nat} (hk : k < l.length) (h : p l[k] = true) : anyP p l = true := by
  cases e : anyP p l with
  | true => rfl
  | false => rw [anyP_false e hk] at h; cases h
theorem anyP_none {p : Int → Bool} {l : List Int} (h : ∀ k (hk : k < l.length), p l[k] = false) : anyP p l = false := by
  unfold anyP
  rw [fi_none h]; rfl

set_option maxHeartbeats 1000000 in
theorem indexN_any (A : Option Addr) (c : Nat) (l : List Int) (B : Nat) (w : World) (hl : l.length ≤ 9223372036854775807) (hA : Lies w B A (ints l)) :
    Calls Try.prog 195 #[.slice A l.length c, .func (.func 160) #[] #[]] w fun e w' => e = .returned (.int .i64 (firstI badN l)) ∧ w = w' := by
  go_enter Try.func195, Try.ntmps195
  go_wp2
  go_loop [8] (fun i => ∃ k : Nat, k ≤ l.length ∧ i = .int .i64 k ∧ (∀ j (h : j < k) (h' : j < l.length), badN l[j] = false)) (fun i => l.length - (intOf i).toNat)
  case atStart => exact ⟨0, by omega, rfl, fun j h => by omega⟩
  case round =>
    obtain ⟨k, hk, rfl, hno⟩ := hrel
    by_cases hlt : k < l.length
    · obtain ⟨a, rfl, hb, hc⟩ := hA.int hlt
      have hyes : badN l[k] = true → firstI badN l = k := fun h => firstI_some (fi_some hlt h fun j hj => hno j hj (by omega))
      have hno2 : badN l[k] = false → ∀ j (h : j < k + 1) (h' : j < l.length), badN l[j] = false := by
        intro hf j h h'
        by_cases e : j = k
        · subst e; exact hf
        · exact hno j (by omega) h'
      have ht := load1_any l[k] w
      generalize hf : badN l[k] = r at *
      generalize l[k] = x at *
      have Hno2 := Lib.hid hno2; have Hyes := Lib.hid hyes; have Ht := Lib.hid ht
      clear hno hno2 hyes ht hf hA
      cases r with
      | true =>
        have H := Lib.hid (Hyes.out rfl)
        go_wp2_with (go_at_call 160; refine (Ht.out).mono ?_; rintro e w1 ⟨rfl, rfl⟩)
        go_ret
        exact ⟨by rw [H.out]; rfl, rfl⟩
      | false =>
        go_wp2_with (go_at_call 160; refine (Ht.out).mono ?_; rintro e w1 ⟨rfl, rfl⟩)
        go_round
        case rel => exact ⟨k + 1, by omega, by go_num, Hno2.out trivial⟩
        case measure => simp [intOf]; omega
    · have hf : firstI badN l = -1 := firstI_none (fi_none fun j hj => hno j (by omega) hj)
      have H := Lib.hid hf
      clear hf hno
      go_wp2
      go_ret
      exact ⟨by rw [H.out]; rfl, rfl⟩
theorem containsN_any (A : Option Addr) (c : Nat) (l : List Int) (B : Nat) (w : World) (hl : l.length ≤ 9223372036854775807) (hA : Lies w B A (ints l)) :
    Calls Try.prog 159 #[.slice A l.length c, .func (.func 160) #[] #[]] w fun e w' => e = .returned (.bool (anyP badN l)) ∧ w = w' := by
  have hi := indexN_any A c l B w hl hA
  rcases anyP_cases badN l with ⟨h1, k, h2⟩ | ⟨h1, h2⟩
  · rw [h2] at hi
    have Hi := Lib.hid hi; have H := Lib.hid h1
    have hp : decide ((0 : Int) ≤ (k : Int)) = true := by simp
    clear hi hA h1 h2
    go_enter Try.func159, Try.ntmps159
    go_wp2_with fail
    refine (Hi.out).mono ?_
    rintro e w1 ⟨rfl, rfl⟩
    go_wp2
    go_ret
    exact ⟨by rw [H.out]; rfl, rfl⟩
  · rw [h2] at hi
    have Hi := Lib.hid hi; have H := Lib.hid h1
    clear hi hA h1 h2
    go_enter Try.func159, Try.ntmps159
    go_wp2_with fail
    refine (Hi.out).mono ?_
    rintro e w1 ⟨rfl, rfl⟩
    go_wp2
    go_ret
    exact ⟨by rw [H.out]; rfl, rfl⟩

set_option maxHeartbeats 1000000 in
theorem indexK_any (b : Nat) (A1 : Option Addr) (n c1 : Nat) (A : Option Addr) (c : Nat) (l : List Int) (B : Nat) (w : World) (hl : l.length ≤ 9223372036854775807) (hA : Lies w B A (ints l)) (hbx : w.cell? ⟨b, 0, none⟩ = some (.slice A1 n c1)) (hn : n ≤ 9223372036854775807) :
    Calls Try.prog 195 #[.slice A l.length c, .func (.func 161) #[] #[.pointer (some ⟨b, 0, none⟩)]] w fun e w' => e = .returned (.int .i64 (firstI (badK n) l)) ∧ w = w' := by
  go_enter Try.func195, Try.ntmps195
  go_wp2
  go_loop [8] (fun i => ∃ k : Nat, k ≤ l.length ∧ i = .int .i64 k ∧ (∀ j (h : j < k) (h' : j < l.length), (badK n) l[j] = false)) (fun i => l.length - (intOf i).toNat)
  case atStart => exact ⟨0, by omega, rfl, fun j h => by omega⟩
  case round =>
    obtain ⟨k, hk, rfl, hno⟩ := hrel
    by_cases hlt : k < l.length
    · obtain ⟨a, rfl, hb, hc⟩ := hA.int hlt
      have hyes : (badK n) l[k] = true → firstI (badK n) l = k := fun h => firstI_some (fi_some hlt h fun j hj => hno j hj (by omega))
      have hno2 : (badK n) l[k] = false → ∀ j (h : j < k + 1) (h' : j < l.length), (badK n) l[j] = false := by
        intro hf j h h'
        by_cases e : j = k
        · subst e; exact hf
        · exact hno j (by omega) h'
      have ht := load2_any l[k] b A1 n c1 w hbx hn
      generalize hf : (badK n) l[k] = r at *
      generalize l[k] = x at *
      have Hno2 := Lib.hid hno2; have Hyes := Lib.hid hyes; have Ht := Lib.hid ht
      clear hno hno2 hyes ht hf hA
      cases r with
      | true =>
        have H := Lib.hid (Hyes.out rfl)
        go_wp2_with (go_at_call 161; refine (Ht.out).mono ?_; rintro e w1 ⟨rfl, rfl⟩)
        go_ret
        exact ⟨by rw [H.out]; rfl, rfl⟩
      | false =>
        go_wp2_with (go_at_call 161; refine (Ht.out).mono ?_; rintro e w1 ⟨rfl, rfl⟩)
        go_round
        case rel => exact ⟨k + 1, by omega, by go_num, Hno2.out trivial⟩
        case measure => simp [intOf]; omega
    · have hf : firstI (badK n) l = -1 := firstI_none (fi_none fun j hj => hno j (by omega) hj)
      have H := Lib.hid hf
      clear hf hno
      go_wp2
      go_ret
      exact ⟨by rw [H.out]; rfl, rfl⟩
theorem containsK_any (b : Nat) (A1 : Option Addr) (n c1 : Nat) (A : Option Addr) (c : Nat) (l : List Int) (B : Nat) (w : World) (hl : l.length ≤ 9223372036854775807) (hA : Lies w B A (ints l)) (hbx : w.cell? ⟨b, 0, none⟩ = some (.slice A1 n c1)) (hn : n ≤ 9223372036854775807) :
    Calls Try.prog 159 #[.slice A l.length c, .func (.func 161) #[] #[.pointer (some ⟨b, 0, none⟩)]] w fun e w' => e = .returned (.bool (anyP (badK n) l)) ∧ w = w' := by
  have hi := indexK_any b A1 n c1 A c l B w hl hA hbx hn
  rcases anyP_cases (badK n) l with ⟨h1, k, h2⟩ | ⟨h1, h2⟩
  · rw [h2] at hi
    have Hi := Lib.hid hi; have H := Lib.hid h1
    have hp : decide ((0 : Int) ≤ (k : Int)) = true := by simp
    clear hi hA h1 h2
    go_enter Try.func159, Try.ntmps159
    go_wp2_with fail
    refine (Hi.out).mono ?_
    rintro e w1 ⟨rfl, rfl⟩
    go_wp2
    go_ret
    exact ⟨by rw [H.out]; rfl, rfl⟩
  · rw [h2] at hi
    have Hi := Lib.hid hi; have H := Lib.hid h1
    clear hi hA h1 h2
    go_enter Try.func159, Try.ntmps159
    go_wp2_with fail
    refine (Hi.out).mono ?_
    rintro e w1 ⟨rfl, rfl⟩
    go_wp2
    go_ret
    exact ⟨by rw [H.out]; rfl, rfl⟩
end Go.Proofs.Ytkcpmoinpdojjaa

/- The program's Load: the search for a slot; slots as two lists; the word for what Load answers. -/
namespace Go.Proofs.Ytkcpmoinpdojjaa
open Go.RowKit

attribute [local go_sem] AllFrom.cons_eq AllFrom.nil_eq putF_nil putF_cons wantedL_none wantedL_some OpGoalT OpGoalS OpGoalP YieldsR preF_nil preF_cons

set_option maxHeartbeats 1000000 in
theorem indexSlot_any (v : Value) (l : Sl) (s : Int) (t : Bool) (w : World) (hrow : w.ownsRow 0 148 2 v l.length (l.flatMap slotC)) (hl : l.length ≤ 60) :
    Calls Try.prog 196 #[v, .agg #[.int .i64 s, .bool t]] w fun e w' => e = .returned (.int .i64 (firstI (eqB (s, t)) l)) ∧ Below w.heap.size w w' := by
  obtain ⟨A, cap, rfl, hc1, hc2⟩ := row_slice hrow
  clear hc2
  go_enter Try.func196, Try.ntmps196
  go_wp2
  go_loopw [8] (fun i wr => ∃ k : Nat, k ≤ l.length ∧ i = .int .i64 k ∧ (∀ j (h : j < k) (h' : j < l.length), eqB (s, t) l[j] = false) ∧ Below (w.heap.size + 1) (w.alloc (.cells #[.int .i64 s, .bool t] 148)) wr) (fun i _ => l.length - (intOf i).toNat)
  case atStart => exact ⟨0, by omega, rfl, fun j h => by omega, Below.refl _ _⟩
  case round =>
    obtain ⟨k, hk, rfl, hno, hbel⟩ := hrel
    have hsz := hbel.size
    simp only [World.size_alloc] at hsz
    have hsz2 : w.heap.size < wr.heap.size := hsz
    have hb0 : Below w.heap.size w wr := ((Below.refl w.heap.size w).alloc (Nat.le_refl _) _).trans (hbel.mono (by omega))
    have d0 : wr.cell? ⟨w.heap.size, 0, none⟩ = some (.int .i64 s) := (hbel.cell (p := ⟨w.heap.size, 0, none⟩) (by simp)).trans (by simp)
    have d1 : wr.cell? ⟨w.heap.size, 1, none⟩ = some (.bool t) := (hbel.cell (p := ⟨w.heap.size, 1, none⟩) (by simp)).trans (by simp)
    by_cases hlt : k < l.length
    · obtain ⟨g0, cap', he, hcell⟩ := row_rec slotC_len hrow hlt
      cases he
      have hgl := row_lt hrow g0 rfl
      have c0 := (hb0.cell (p := ⟨g0, k * 2, none⟩) hgl).trans (hcell 0 _ rfl)
      have c1 := (hb0.cell (p := ⟨g0, k * 2 + 1, none⟩) hgl).trans (hcell 1 _ rfl)
      have hgl2 : g0 < wr.heap.size := by omega
      have hin : (k : Int) < (l.length : Int) := by omega
      have hyes : eqB (s, t) l[k] = true → firstI (eqB (s, t)) l = k := fun h => firstI_some (fi_some hlt h fun j hj => hno j hj (by omega))
      have hno2 : eqB (s, t) l[k] = false → ∀ j (h : j < k + 1) (h' : j < l.length), eqB (s, t) l[j] = false := by
        intro hf j h h'
        by_cases e : j = k
        · subst e; exact hf
        · exact hno j (by omega) h'
      clear hcell hrow
      generalize l[k] = x at *
      obtain ⟨a, b⟩ := x
      simp only at c0 c1
      have he := fun w => eqlSlot w s a t b
      have hg := guardSlot
      generalize hf : eqB (s, t) (a, b) = r at *
      have Hno := Lib.hid hno; have Hno2 := Lib.hid hno2; have Hyes := Lib.hid hyes; have Hbel := Lib.hid hbel; have Hb0 := Lib.hid hb0
      clear hno hno2 hyes hf hbel hb0
      go_wp2
      go_quiet (fail)
      cases r with
      | true =>
        have H := Lib.hid (Hyes.out rfl)
        go_wp2
        go_ret
        exact ⟨by rw [H.out]; rfl, below_drewN Hb0.out _⟩
      | false =>
        go_wp2
        go_roundw
        case rel => exact ⟨k + 1, by omega, by go_num, Hno2.out rfl, below_drewN Hbel.out _⟩
        case measure => simp [intOf]; omega
    · have hf : firstI (eqB (s, t)) l = -1 := firstI_none (fi_none fun j hj => hno j (by omega) hj)
      have H := Lib.hid hf
      clear hf hno hrow
      go_wp2
      go_ret
      exact ⟨by rw [H.out]; rfl, hb0⟩
def anyS (x : Int × Bool) (l : Sl) : Bool := (l.findIdx? (eqB x)).isSome
theorem anyS_cases (x : Int × Bool) (l : Sl) : (anyS x l = true ∧ ∃ k : Nat, firstI (eqB x) l = k) ∨ (anyS x l = false ∧ firstI (eqB x) l = -1) := by
  unfold anyS firstI
  cases h : l.findIdx? (eqB x) with
  | some k => exact .inl ⟨rfl, k, rfl⟩
  | none => exact .inr ⟨rfl, rfl⟩
theorem anyS_iff (x : Int × Bool) (l : Sl) : anyS x l = true ↔ x ∈ l := by
  unfold anyS
  cases h : l.findIdx? (eqB x) with
  | some k =>
    obtain ⟨hk, hp⟩ := fi_lt h
    have e : x = l[k] := by simpa [eqB] using hp
    exact ⟨fun _ => by rw [e]; exact List.getElem_mem hk, fun _ => rfl⟩
  | none =>
    rw [List.findIdx?_eq_none_iff] at h
    refine ⟨fun h => (nomatch h), fun hx => ?_⟩
    have := h x hx
    simp [eqB] at this
set_option maxHeartbeats 1000000 in
theorem containsSlot_any (v : Value) (l : Sl) (s : Int) (t : Bool) (w : World) (hrow : w.ownsRow 0 148 2 v l.length (l.flatMap slotC)) (hl : l.length ≤ 60) :
    Calls Try.prog 162 #[v, .agg #[.int .i64 s, .bool t]] w fun e w' => e = .returned (.bool (anyS (s, t) l)) ∧ Below w.heap.size w w' := by
  have hi := indexSlot_any v l s t _ (row_mod hrow ((Mod.refl [] w).alloc (.cells #[.int .i64 s, .bool t] 148)) (by simp)) hl
  rcases anyS_cases (s, t) l with ⟨h1, k, h2⟩ | ⟨h1, h2⟩
  · rw [h2] at hi
    have Hi := Lib.hid hi; have H := Lib.hid h1
    have hp : decide ((0 : Int) ≤ (k : Int)) = true := by simp
    clear hi h1 h2
    go_enter Try.func162, Try.ntmps162
    go_wp2_with fail
    refine (Hi.out).mono ?_
    rintro e w1 ⟨rfl, hb⟩
    simp only [World.size_alloc] at hb
    go_wp2
    go_ret
    exact ⟨by rw [H.out]; rfl, ((Below.refl w.heap.size w).alloc (Nat.le_refl _) _).trans (hb.mono (by omega))⟩
  · rw [h2] at hi
    have Hi := Lib.hid hi; have H := Lib.hid h1
    clear hi h1 h2
    go_enter Try.func162, Try.ntmps162
    go_wp2_with fail
    refine (Hi.out).mono ?_
    rintro e w1 ⟨rfl, hb⟩
    simp only [World.size_alloc] at hb
    go_wp2
    go_ret
    exact ⟨by rw [H.out]; rfl, ((Below.refl w.heap.size w).alloc (Nat.le_refl _) _).trans (hb.mono (by omega))⟩

/-- The slots of the generations gs, those of ks alive. -/
def loadL (gs ks : List Int) : Sl := (List.range gs.length).map fun i => (gs.getD i 0, hasB ks (i : Int))
def dupB (ks : List Int) : Bool := (List.range ks.length).any fun j => hasB (ks.take j) (ks.getD j 0)
def loadE (gs ks : List Int) : Int := if 60 < gs.length then 2 else if anyP badN gs = true then 1 else if anyP (badK gs.length) ks = true then 5 else if dupB ks = true then 6 else if anyS (1000000, true) (loadL gs ks) = true then 1 else 0
theorem loadL_len (gs ks : List Int) : (loadL gs ks).length = gs.length := by simp [loadL]
theorem loadL_get (gs ks : List Int) {n : Nat} (h : n < (loadL gs ks).length) : (loadL gs ks)[n] = (gs[n]'(by simpa [loadL] using h), hasB ks (n : Int)) := by
  have h' : n < gs.length := by simpa [loadL] using h
  simp [loadL, List.getD_eq_getElem?_getD, List.getElem?_eq_getElem h']
theorem loadL_nil (gs : List Int) : loadL gs [] = gs.map (·, false) := by
  apply List.ext_getElem
  · simp [loadL]
  · intro n h1 h2
    rw [loadL_get, hasB_nil]; simp
theorem loadL_set (gs ks : List Int) {n : Nat} (h : n < (loadL gs ks).length) : (loadL gs ks).set n ((loadL gs ks)[n].1, true) = loadL gs (ks ++ [(n : Int)]) := by
  apply List.ext_getElem
  · simp [loadL]
  · intro j h1 h2
    rw [List.getElem_set, loadL_get gs (ks ++ [(n : Int)]), hasB_snoc]
    split
    · next e => subst e; rw [loadL_get]; simp
    · next e =>
      rw [loadL_get]
      have : ¬ ((j : Int) = n) := by omega
      simp [this]
theorem dupB_of {ks : List Int} {j : Nat} (hj : j < ks.length) (h : hasB (ks.take j) ks[j] = true) : dupB ks = true := by
  unfold dupB
  rw [List.any_eq_true]
  exact ⟨j, by simpa using hj, by simpa [List.getD_eq_getElem?_getD, List.getElem?_eq_getElem hj] using h⟩
theorem dupB_none {ks : List Int} (h : ∀ j (hj : j < ks.length), hasB (ks.take j) ks[j] = false) : dupB ks = false := by
  cases e : dupB ks with
  | false => rfl
  | true =>
    unfold dupB at e
    rw [List.any_eq_true] at e
    obtain ⟨j, hj, h2⟩ := e
    have hj' : j < ks.length := by simpa using hj
    have := h j hj'
    simp [List.getD_eq_getElem?_getD, List.getElem?_eq_getElem hj'] at h2
    rw [h2] at this; cases this
/-- All sits well ahead of the lists' order. -/
structure LoadIn (gs ks : List Int) : Prop where
  len : gs.length ≤ 60
  gens : ∀ k (h : k < gs.length), 0 ≤ gs[k] ∧ gs[k] ≤ 1000000
  keys : ∀ k (h : k < ks.length), 0 ≤ ks[k] ∧ ks[k] < gs.length
theorem loadE_long {gs ks : List Int} (h : 60 < gs.length) : loadE gs ks = 2 := by unfold loadE; rw [if_pos h]
theorem loadE_gen {gs ks : List Int} (h : gs.length ≤ 60) (h1 : anyP badN gs = true) : loadE gs ks = 1 := by unfold loadE; rw [if_neg (by omega), if_pos h1]
theorem loadE_key {gs ks : List Int} (h : gs.length ≤ 60) (h1 : anyP badN gs = false) (h2 : anyP (badK gs.length) ks = true) : loadE gs ks = 5 := by unfold loadE; rw [if_neg (by omega), if_neg (by simp [h1]), if_pos h2]
theorem loadIn_of {gs ks : List Int} (h : gs.length ≤ 60) (h1 : anyP badN gs = false) (h2 : anyP (badK gs.length) ks = false) : LoadIn gs ks := by
  refine ⟨h, fun k hk => ?_, fun k hk => ?_⟩
  · have := anyP_false h1 hk
    simp [badN] at this; omega
  · have := anyP_false h2 hk
    simp [badK] at this; omega
theorem LoadIn.bad {gs ks : List Int} (h : LoadIn gs ks) : anyP badN gs = false ∧ anyP (badK gs.length) ks = false := by
  refine ⟨anyP_none fun k hk => badN_in (h.gens k hk).1 (h.gens k hk).2, anyP_none fun k hk => badK_in (h.keys k hk).1 (h.keys k hk).2⟩
theorem LoadIn.dup {gs ks : List Int} (h : LoadIn gs ks) (h1 : dupB ks = true) : loadE gs ks = 6 := by
  unfold loadE; rw [if_neg (by have := h.len; omega), if_neg (by simp [h.bad.1]), if_neg (by simp [h.bad.2]), if_pos h1]
theorem LoadIn.full {gs ks : List Int} (h : LoadIn gs ks) (h1 : dupB ks = false) (h2 : anyS (1000000, true) (loadL gs ks) = true) : loadE gs ks = 1 := by
  unfold loadE; rw [if_neg (by have := h.len; omega), if_neg (by simp [h.bad.1]), if_neg (by simp [h.bad.2]), if_neg (by simp [h1]), if_pos h2]
theorem LoadIn.good {gs ks : List Int} (h : LoadIn gs ks) (h1 : dupB ks = false) (h2 : anyS (1000000, true) (loadL gs ks) = false) : loadE gs ks = 0 := by
  unfold loadE; rw [if_neg (by have := h.len; omega), if_neg (by simp [h.bad.1]), if_neg (by simp [h.bad.2]), if_neg (by simp [h1]), if_neg (by simp [h2])]
/-- Loaded slots with nobody at a spent generation are slots as they may be. -/
theorem LoadIn.ok {gs ks : List Int} (h : LoadIn gs ks) (h2 : anyS (1000000, true) (loadL gs ks) = false) : SlOk (loadL gs ks) := by
  refine ⟨by rw [loadL_len]; exact h.len, fun x hx => ?_⟩
  obtain ⟨n, hn, rfl⟩ := List.mem_iff_getElem.1 hx
  have hg := loadL_get gs ks hn
  have hb := h.gens n (by simpa [loadL] using hn)
  refine ⟨by rw [hg]; exact hb.1, by rw [hg]; exact hb.2, fun ht => ?_⟩
  have hne : ¬ ((loadL gs ks)[n].1 = 1000000) := by
    intro e
    have hm : ((1000000 : Int), true) ∈ loadL gs ks := by
      have e2 : (loadL gs ks)[n] = (1000000, true) := Prod.ext e ht
      rw [← e2]; exact List.getElem_mem hn
    rw [← anyS_iff, h2] at hm
    cases hm
  have : (loadL gs ks)[n].1 ≤ 1000000 := by rw [hg]; exact hb.2
  omega
end Go.Proofs.Ytkcpmoinpdojjaa
