/- A law's statement out of its contract, where the contract wants to know how large the arguments may be. -/
import Derived.SizedLaws
import Derived.Deep.Slices
import Derived.Test.YtkcpmoinpdojjaaLaw
namespace Go.Proofs.Ytkcpmoinpdojjaa
open Go Go.ChangeShapes Go.WideShapes Go.ChangeAt Go.RowKit

theorem law_lifted_sized {H : Type} {enc : TypeId × Value → H} {C : Checked} {os : Os} (started : os.Started) {f : FuncId} {fn : Func} {s : ChangeSpec} {tb : TypeId}
    (own : ownKnob C.prog.godebug = none) (hl : laidOutB C.prog = true) (hno : C.prog.inits.idxOf? f = none) (hfn : C.prog.funcs[f]? = some fn)
    (hr : ∀ t ∈ fn.params.toList, C.prog.readableRec t = true ∧ t < C.prog.types.size) (hv : s.vars = []) (hres : fn.resultTypes = #[tb]) (hb : C.prog.underlying tb = some .bool)
    (hspec : ∀ (ds : List (DataW H)), ds.length = fn.params.toList.length → s.fn H ds = { results := [.lit (.bool true)], args := ds })
    (witness : ∃ (w : World) (tape : Tape) (i : Input), w.os = os ∧ (w.forCall tape i).Shaped C.prog ∧ i.vars = [] ∧ Input.okWide C.prog (w.forCall tape i) .any w.heap.size f i ∧
      s.pre6 enc C.prog fn [] false (w.forCall tape i).memory i.args ∧ Assume.holds {} C.prog (lone (Frame.enter C.prog f i.args .normal) [] (w.forCall tape i)))
    (hc : ∀ (W : World) (base : Nat) (args : Array Value) (ds : List (DataW H)) (ps : List MemPlace),
      (∀ (j : Nat) t v, fn.params[j]? = some t → args[j]? = some v → Value.okWide C.prog W .any base t v) →
      DataW.TrodAll enc C.prog W 0 (fun _ => true) true fn.params.toList args.toList ds ps → (∀ p ∈ ps, p.block < W.heap.size) →
      (∀ (j : Nat) t d, fn.params.toList[j]? = some t → ds[j]? = some d → ∀ m ∈ d.weights C.prog t, m ≤ reachBytes) →
      Calls C.prog f args W fun e W' => e = .returned (.bool true) ∧ Below W.heap.size W W') :
    ReturnsInHanded {} C os f .any (s.pre6 enc C.prog fn [] false) (s.post enc C.prog fn false true false false) := by
  refine returnsInHanded_of_change_sized own started hno hfn witness ?_
  intro W base args ds gs before hval hW _ hsz _
  have hlt := hW.lt
  have hW' := hW
  obtain ⟨p, q, hA, _, rfl, _, _⟩ := hW
  refine (hc W base args ds p hval hA (fun x hx => hlt x (by simp [hx])) ?_).mono ?_
  · intro j t d ht hd m hm
    have h1 : (fn.params.toList ++ s.plain.varTypes C.prog)[j]? = some t := by
      rw [List.getElem?_append_left (List.getElem?_eq_some_iff.1 ht).1]; exact ht
    have h2 : (ds ++ gs)[j]? = some d := by
      rw [List.getElem?_append_left (List.getElem?_eq_some_iff.1 hd).1]; exact hd
    have := List.all_eq_true.1 hsz m (DataW.weights_mem_each h1 h2 m hm)
    simpa using this
  · rintro e W' ⟨rfl, hB⟩
    exact ⟨_, rfl, law_post hl hr hv hres hb hspec hW' hB⟩

/-- How long a slice may be. -/
theorem slice_size {H : Type} {enc : TypeId × Value → H} {P : Program} {t e : TypeId} {W : World} {A : Option Addr} {n c : Nat} {d : DataW H} {ps : List MemPlace} (ht : P.underlying t = some (.slice e))
    (h : DataW.Trod enc P W 0 (fun _ => true) true t (.slice A n c) d ps) (hw : ∀ m ∈ d.weights P t, m ≤ reachBytes) : n * P.bytesOf e ≤ reachBytes := by
  obtain ⟨fuel, hf⟩ := h
  rcases Go.Deep.open_slice ht hf with ⟨hcs, _⟩ | ⟨a, len, cap, m, n', D, Pl, hcs, _, hl, hm, hmm, hx, hi⟩
  · have : n = 0 := by
      have : A = none ∧ n = 0 ∧ c = 0 := by simpa [Value.cells] using hcs
      exact this.2.1
    subst this
    simp
  · have : A = some a ∧ n = len ∧ c = cap := by simpa [Value.cells] using hcs
    obtain ⟨rfl, rfl, rfl⟩ := this
    have hd := (Prod.mk.inj hx).1
    have h1 := hw ((n + (m - n)) * P.bytesOf e) (by rw [hd]; simp [DataW.weights, ht])
    exact Nat.le_trans (Nat.mul_le_mul_right _ (by omega)) h1
/-- A nil slice has no elements. -/
theorem slice_none {P : Program} {t e : TypeId} {W : World} {b : Nat} {r : Reach} {n c : Nat} {H : Type} {enc : TypeId × Value → H} {d : DataW H} {ps : List MemPlace} (ht : P.underlying t = some (.slice e))
    (h : DataW.Trod enc P W 0 (fun _ => true) true t (.slice none n c) d ps) : n = 0 ∧ c = 0 := by
  obtain ⟨fuel, hf⟩ := h
  rcases Go.Deep.open_slice ht hf with ⟨hcs, _⟩ | ⟨a, len, cap, m, n', D, Pl, hcs, _⟩
  · simpa [Value.cells] using hcs
  · simp [Value.cells] at hcs
theorem reach_val : reachBytes = 140737488351232 := by decide
end Go.Proofs.Ytkcpmoinpdojjaa
