/- The law MaskOfs returns true for every list. -/
import Derived.Test.YthbbjbcojhljfaaRows
import Derived.Test.YthbbjbcojhljfaaClosed
import Derived.Test.YthbbjbcojhljfaaLaw
import Derived.Test.YthbbjbcojhljfaaMask4
import Derived.Test.YthbbjbcojhljfaaOpen
namespace Go.Proofs.Ythbbjbcojhljfaa
open Go.ChangeShapes Go.WideShapes Go.ChangeAt Go.RowKit

theorem intCells_int : IntCells Try.prog 3 := IntCells.int Try.underlying3 (by kernel_rfl)
set_option maxRecDepth 100000 in
theorem maskOfs_law {H : Type} {enc : TypeId × Value → H} (W : World) (base : Nat) (args : Array Value) (ds : List (DataW H)) (ps : List MemPlace)
    (hval : ∀ (j : Nat) t v, Try.f4.params[j]? = some t → args[j]? = some v → Value.okWide Try.prog W .any base t v)
    (hA : DataW.TrodAll enc Try.prog W 0 (fun _ => true) true Try.f4.params.toList args.toList ds ps) (hlt : ∀ p ∈ ps, p.block < W.heap.size) :
    Calls Try.prog 4 args W fun e W' => e = .returned (.bool true) ∧ Below W.heap.size W W' := by
  rw [Try.params4] at hA hval
  obtain ⟨v0, d0, rfl, rfl, h0⟩ := trodAll_one hA
  obtain ⟨A, n, c, zs, rfl, hn, hc, hl, _, hlies⟩ := open_slice_flat Try.underlying27 intCells_int (k := 1) (by kernel_rfl) (by omega) (hval 0 27 v0 rfl rfl) h0 hlt
  obtain rfl : n = zs.length := by omega
  exact maskOfs_any A c zs _ W hn hc hlies

set_option maxRecDepth 100000 in
theorem maskOfs_lifted (os : Os) (started : os.Started) (H : Type) (enc : TypeId × Value → H) :
    ReturnsInHanded {} Try.checked os 4 .any (Rows.maskOfsSpec.pre6 enc Try.prog Try.f4 Rows.maskOfsRow.domain false) (Rows.maskOfsSpec.post enc Try.prog Try.f4 false true false false) := by
  refine law_lifted (C := Try.checked) (tb := 4) started own_ laid_ (by kernel_rfl) Try.func4 ?_ rfl rfl (by kernel_rfl) (fun ds h => ?_)
    (ChangeSpec.witness6 (enc := enc) (C := Try.checked) false ⟨#[], #[.slice none 0 0], []⟩ 8 (by kernel_rfl) (by kernel_rfl) (by kernel_rfl) (by kernel_rfl)) ?_
  · intro t ht
    have : t = 27 := by simpa [Try.params4] using ht
    rcases this with rfl
    all_goals exact ⟨by kernel_rfl, of_decide_eq_true (by kernel_rfl)⟩
  · match ds, h with
    | [d0], _ => rfl
  · intro W base args ds ps hval hA hlt
    exact maskOfs_law W base args ds ps hval hA hlt

set_option maxHeartbeats 4000000 in
theorem maskOfs_closed : joinedFacts Try.prog 4 Try.f4 Rows.maskOfsSpec Rows.maskOfsRow = true := by
  unfold joinedFacts
  repeat' (with_reducible refine and_intro ?_ ?_)
  · as_aux_lemma => kernel_rfl
  · exact laid_
  · exact mapsRowed_
  · as_aux_lemma => kernel_rfl
  · as_aux_lemma => kernel_rfl
  · as_aux_lemma => kernel_rfl
  · exact stops_
  · as_aux_lemma => kernel_rfl
  · exact stopKnobs_
  · as_aux_lemma => kernel_rfl
  · as_aux_lemma => kernel_rfl
  · as_aux_lemma => kernel_rfl
  · as_aux_lemma => kernel_rfl
  · as_aux_lemma => kernel_rfl
  · as_aux_lemma => kernel_rfl
  · as_aux_lemma => kernel_rfl
  · as_aux_lemma => kernel_rfl
  · as_aux_lemma => kernel_rfl
  · as_aux_lemma => kernel_rfl
  · as_aux_lemma => kernel_rfl
  · as_aux_lemma => kernel_rfl
  · as_aux_lemma => kernel_rfl
  · exact plainKeys_
  · as_aux_lemma => kernel_rfl
  · exact stopsHeard_
  · exact mayEnter_
  · exact liftsFinal_
  · exact make_
  · as_aux_lemma => kernel_rfl
  · as_aux_lemma => kernel_rfl
  · as_aux_lemma => kernel_rfl
  · as_aux_lemma => kernel_rfl

theorem maskOfs_holds : Rows.MaskOfsSaid :=
  OpenClaim.holds_of_wide 4 Try.f4 rfl rfl rfl rfl rfl rfl rfl ⟨rfl, rfl, rfl, rfl, rfl⟩ rfl rfl rfl rfl rfl (by as_aux_lemma => kernel_rfl) Try.func4 maskOfs_closed
    (of_decide_eq_true (by as_aux_lemma => kernel_rfl)) (by unfold Func.isWrapper; first | (rw [if_pos (by decide +kernel)]; kernel_rfl) | (rw [if_neg (by decide +kernel)]; exact ⟨rfl, rfl⟩))
    (fun os started H enc _ => maskOfs_lifted os started H enc)
#print axioms maskOfs_holds
end Go.Proofs.Ythbbjbcojhljfaa
