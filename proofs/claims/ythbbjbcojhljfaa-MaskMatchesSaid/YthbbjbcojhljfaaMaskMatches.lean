/- The law MaskMatches returns true for every input. -/
import Derived.Test.YthbbjbcojhljfaaRows
import Derived.Test.YthbbjbcojhljfaaClosed
import Derived.Test.YthbbjbcojhljfaaLaw
import Derived.Test.YthbbjbcojhljfaaMask4
import Derived.Test.YthbbjbcojhljfaaOpen
import Derived.Lib.SmallJoins
namespace Go.Proofs.Ythbbjbcojhljfaa
open Go.ChangeShapes Go.WideShapes Go.ChangeAt Go.RowKit

attribute [local go_sem] AllFrom.cons_eq AllFrom.nil_eq putL_nil putL_cons wantedL_none wantedL_some OpGoalM YieldsJ

set_option maxHeartbeats 400000 in
theorem maskMatches_any (m n t a : Int) (hn : InR n) (w : World) :
    Calls Try.prog 6 #[.int .i64 m, .agg #[.int .i64 n, .int .i64 t, .int .i64 a]] w fun e w' => e = .returned (.bool true) ∧ Below w.heap.size w w' := by
  have h1 := fun w => matches_any m n t a w
  have h2 := fun w => refMatches_any m n t a hn w
  generalize matchesB m n t a = r at *
  have H1 := Lib.hid h1; have H2 := Lib.hid h2
  clear h1 h2
  go_enter Try.func6, Try.ntmps6
  go_wp2
  refine wp_planM [some 5, some 6, some 7, some 8, some 9, some 10, some 11, some 12, some 13, some 14, some 4] [[], [0], [0, 1], [0, 1], [0, 1, 2, 3], [0, 1], [0, 1], [0, 1, 2, 3, 4, 5, 6], [0, 1, 2, 3, 4, 5, 6, 7], [0, 1, 2, 3, 4, 5, 6, 7, 8], [0, 1, 2, 3, 4, 5, 6, 7, 8, 9]] [.bool true, .bool true, .int .i64 m, .agg #[.int .i64 n, .int .i64 t, .int .i64 a], .bool r, .int .i64 m, .agg #[.int .i64 n, .int .i64 t, .int .i64 a], .bool r, .bool true, .bool true, .bool true]
    (fun w' => Below (w.heap.size + 1) (w.alloc (.cells #[.int .i64 n, .int .i64 t, .int .i64 a] 23)) w') mixed rfl (by kernel_rfl) (Below.refl _ _).drew ?_ ?_
  · simp only [AllFrom.cons_eq, AllFrom.nil_eq, OpGoalM]
    refine ⟨?_, ?_, ?_, ?_, ?_, ?_, ?_, ?_, ?_, ?_, ?_, trivial⟩
    all_goals
      intro w1 hI
      have c0 : w1.cell? ⟨w.heap.size, 0, none⟩ = some (.int .i64 n) := (hI.cell (p := ⟨w.heap.size, 0, none⟩) (by simp)).trans (by simp)
      have c1 : w1.cell? ⟨w.heap.size, 1, none⟩ = some (.int .i64 t) := (hI.cell (p := ⟨w.heap.size, 1, none⟩) (by simp)).trans (by simp)
      have c2 : w1.cell? ⟨w.heap.size, 2, none⟩ = some (.int .i64 a) := (hI.cell (p := ⟨w.heap.size, 2, none⟩) (by simp)).trans (by simp)
      have hsz : w.heap.size + 1 ≤ w1.heap.size := by have := hI.size; simpa using this
      go_simp
    · refine (masked_any _).mono ?_
      rintro e w' ⟨rfl, hb⟩
      exact ⟨rfl, hI.trans (hb.mono hsz)⟩
    · refine (H1.out _).mono ?_
      rintro e w' ⟨rfl, hb⟩
      exact ⟨rfl, hI.trans (hb.mono hsz)⟩
    · refine (H2.out _).mono ?_
      rintro e w' ⟨rfl, hb⟩
      exact ⟨rfl, hI.trans (hb.mono hsz)⟩
  · intro w1 hI
    go_simp
    go_wp2
    go_ret
    exact ⟨rfl, ((Below.refl w.heap.size w).alloc (Nat.le_refl _) _).trans (hI.mono (by simp))⟩

set_option maxRecDepth 100000 in
theorem maskMatches_law {H : Type} {enc : TypeId × Value → H} (W : World) (base : Nat) (args : Array Value) (ds : List (DataW H)) (ps : List MemPlace)
    (hval : ∀ (j : Nat) t v, Try.f6.params[j]? = some t → args[j]? = some v → Value.okWide Try.prog W .any base t v)
    (hA : DataW.TrodAll enc Try.prog W 0 (fun _ => true) true Try.f6.params.toList args.toList ds ps) (_ : ∀ p ∈ ps, p.block < W.heap.size) :
    Calls Try.prog 6 args W fun e W' => e = .returned (.bool true) ∧ Below W.heap.size W W' := by
  rw [Try.params6] at hA hval
  obtain ⟨v0, v1, d0, d1, p0, p1, rfl, rfl, rfl, h0, h1⟩ := trodAll_two hA
  obtain ⟨m, rfl, -, -, -⟩ := open_int Try.underlying3 (hval 0 3 v0 rfl rfl) h0
  obtain ⟨v0, v1, v2, y0, y1, y2, n, rfl, rfl, rfl, t0, t1, t2⟩ := Joins.open_agg3 Try.underlying23 (by kernel_rfl) (by kernel_rfl) (hval 1 23 _ rfl rfl) h1
  obtain ⟨a, e0, -, hw⟩ := DataW.trod_int Try.underlying3 t0
  cases e0
  obtain ⟨b, e1, -⟩ := DataW.trod_int Try.underlying3 t1
  cases e1
  obtain ⟨c, e2, -⟩ := DataW.trod_int Try.underlying3 t2
  cases e2
  exact maskMatches_any m a b c (inR_of_wf hw) W

set_option maxRecDepth 100000 in
theorem maskMatches_lifted (os : Os) (started : os.Started) (H : Type) (enc : TypeId × Value → H) :
    ReturnsInHanded {} Try.checked os 6 .any (Rows.maskMatchesSpec.pre6 enc Try.prog Try.f6 Rows.maskMatchesRow.domain false) (Rows.maskMatchesSpec.post enc Try.prog Try.f6 false true false false) := by
  refine law_lifted (C := Try.checked) (tb := 4) started own_ laid_ (by kernel_rfl) Try.func6 ?_ rfl rfl (by kernel_rfl) (fun ds h => ?_)
    (ChangeSpec.witness6 (enc := enc) (C := Try.checked) false ⟨#[], #[.int .i64 0, .agg #[.int .i64 0, .int .i64 0, .int .i64 0]], []⟩ 8 (by kernel_rfl) (by kernel_rfl) (by kernel_rfl) (by kernel_rfl)) ?_
  · intro t ht
    have : t = 3 ∨ t = 23 := by simpa [Try.params6] using ht
    rcases this with rfl | rfl
    all_goals exact ⟨by kernel_rfl, of_decide_eq_true (by kernel_rfl)⟩
  · match ds, h with
    | [d0, d1], _ => rfl
  · intro W base args ds ps hval hA hlt
    exact maskMatches_law W base args ds ps hval hA hlt

set_option maxHeartbeats 4000000 in
theorem maskMatches_closed : joinedFacts Try.prog 6 Try.f6 Rows.maskMatchesSpec Rows.maskMatchesRow = true := by
  unfold joinedFacts
  repeat' (with_reducible refine and_intro ?_ ?_)
  · as_aux_lemma => kernel_rfl
  · exact laid_
  · exact mapsRowed_
  · as_aux_lemma => kernel_rfl
  · as_aux_lemma => kernel_rfl
  · as_aux_lemma => kernel_rfl
  · exact stops_
  · as_aux_lemma => kernel_rfl
  · exact stopKnobs_
  · as_aux_lemma => kernel_rfl
  · as_aux_lemma => kernel_rfl
  · as_aux_lemma => kernel_rfl
  · as_aux_lemma => kernel_rfl
  · as_aux_lemma => kernel_rfl
  · as_aux_lemma => kernel_rfl
  · as_aux_lemma => kernel_rfl
  · as_aux_lemma => kernel_rfl
  · as_aux_lemma => kernel_rfl
  · as_aux_lemma => kernel_rfl
  · as_aux_lemma => kernel_rfl
  · as_aux_lemma => kernel_rfl
  · as_aux_lemma => kernel_rfl
  · exact plainKeys_
  · as_aux_lemma => kernel_rfl
  · exact stopsHeard_
  · exact mayEnter_
  · exact liftsFinal_
  · exact make_
  · as_aux_lemma => kernel_rfl
  · as_aux_lemma => kernel_rfl
  · as_aux_lemma => kernel_rfl
  · as_aux_lemma => kernel_rfl

theorem maskMatches_holds : Rows.MaskMatchesSaid :=
  OpenClaim.holds_of_wide 6 Try.f6 rfl rfl rfl rfl rfl rfl rfl ⟨rfl, rfl, rfl, rfl, rfl⟩ rfl rfl rfl rfl rfl (by as_aux_lemma => kernel_rfl) Try.func6 maskMatches_closed
    (of_decide_eq_true (by as_aux_lemma => kernel_rfl)) (by unfold Func.isWrapper; first | (rw [if_pos (by decide +kernel)]; kernel_rfl) | (rw [if_neg (by decide +kernel)]; exact ⟨rfl, rfl⟩))
    (fun os started H enc _ => maskMatches_lifted os started H enc)
#print axioms maskMatches_holds
end Go.Proofs.Ythbbjbcojhljfaa
