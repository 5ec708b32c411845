/- The law MaskBeasts returns true for every input. -/
import Derived.Test.YthbbjbcojhljfaaRows
import Derived.Test.YthbbjbcojhljfaaClosed
import Derived.Test.YthbbjbcojhljfaaLaw
import Derived.Test.YthbbjbcojhljfaaBeast
import Derived.Test.YthbbjbcojhljfaaTypes
import Derived.Test.YthbbjbcojhljfaaOpen
namespace Go.Proofs.Ythbbjbcojhljfaa
open Go.ChangeShapes Go.WideShapes Go.ChangeAt Go.RowKit

attribute [local go_sem] AllFrom.cons_eq AllFrom.nil_eq putL_nil putL_cons wantedL_none wantedL_some OpGoalM YieldsJ

set_option maxHeartbeats 400000 in
theorem maskBeasts_any (a0 a1 a2 a3 a4 a5 a6 a7 a8 : Int) (w : World) :
    Calls Try.prog 5 #[.agg #[.int .i64 a0, .int .i64 a1, .int .i64 a2, .int .i64 a3, .int .i64 a4, .int .i64 a5, .int .i64 a6, .int .i64 a7, .int .i64 a8]] w fun e w' => e = .returned (.bool true) ∧ Below w.heap.size w w' := by
  have h1 := fun w => checkBeast_any a0 a1 a2 a3 a4 a5 a6 a7 a8 w
  have h2 := fun w => beastCheck_any a0 a1 a2 a3 a4 a5 a6 a7 a8 w
  have h3 := fun w => checkBeast_any 256 0 0 0 0 0 0 0 0 w
  have hz : beastE 256 [0, 0, 0, 0, 0, 0, 0, 0] = 1 := by decide
  rw [hz] at h3
  generalize beastE a0 [a1, a2, a3, a4, a5, a6, a7, a8] = r at *
  have H1 := Lib.hid h1; have H2 := Lib.hid h2; have H3 := Lib.hid h3
  clear h1 h2 h3 hz
  go_enter Try.func5, Try.ntmps5
  go_wp2
  refine wp_planM [some 3, some 4, some 5, some 6, some 7, some 8, some 9, some 10, some 11, some 12, some 2] [[], [0], [], [0, 1, 2], [0, 1, 2, 3], [0, 1, 2, 3, 4], [0, 1, 2, 3, 4, 5], [0, 1, 2, 3, 4, 5, 6], [0, 1, 2, 3, 4, 5, 6, 7], [0, 1, 2, 3, 4, 5, 6, 7, 8], [0, 1, 2, 3, 4, 5, 6, 7, 8, 9]] [.agg #[.int .i64 a0, .int .i64 a1, .int .i64 a2, .int .i64 a3, .int .i64 a4, .int .i64 a5, .int .i64 a6, .int .i64 a7, .int .i64 a8], .int .i64 r, .agg #[.int .i64 a0, .int .i64 a1, .int .i64 a2, .int .i64 a3, .int .i64 a4, .int .i64 a5, .int .i64 a6, .int .i64 a7, .int .i64 a8], .int .i64 r, .bool true, .bool true, .agg #[.int .i64 256, .int .i64 0, .int .i64 0, .int .i64 0, .int .i64 0, .int .i64 0, .int .i64 0, .int .i64 0, .int .i64 0], .int .i64 1, .bool true, .bool true, .bool true]
    (fun w' => Below (w.heap.size + 1) (w.alloc (.cells #[.int .i64 a0, .int .i64 a1, .int .i64 a2, .int .i64 a3, .int .i64 a4, .int .i64 a5, .int .i64 a6, .int .i64 a7, .int .i64 a8] 34)) w') mixed rfl (by kernel_rfl) (Below.refl _ _).drew ?_ ?_
  · simp only [AllFrom.cons_eq, AllFrom.nil_eq, OpGoalM]
    refine ⟨?_, ?_, ?_, ?_, ?_, ?_, ?_, ?_, ?_, ?_, ?_, trivial⟩
    all_goals
      intro w1 hI
      have c0 : w1.cell? ⟨w.heap.size, 0, none⟩ = some (.int .i64 a0) := (hI.cell (p := ⟨w.heap.size, 0, none⟩) (by simp)).trans (by simp)
      have c1 : w1.cell? ⟨w.heap.size, 1, none⟩ = some (.int .i64 a1) := (hI.cell (p := ⟨w.heap.size, 1, none⟩) (by simp)).trans (by simp)
      have c2 : w1.cell? ⟨w.heap.size, 2, none⟩ = some (.int .i64 a2) := (hI.cell (p := ⟨w.heap.size, 2, none⟩) (by simp)).trans (by simp)
      have c3 : w1.cell? ⟨w.heap.size, 3, none⟩ = some (.int .i64 a3) := (hI.cell (p := ⟨w.heap.size, 3, none⟩) (by simp)).trans (by simp)
      have c4 : w1.cell? ⟨w.heap.size, 4, none⟩ = some (.int .i64 a4) := (hI.cell (p := ⟨w.heap.size, 4, none⟩) (by simp)).trans (by simp)
      have c5 : w1.cell? ⟨w.heap.size, 5, none⟩ = some (.int .i64 a5) := (hI.cell (p := ⟨w.heap.size, 5, none⟩) (by simp)).trans (by simp)
      have c6 : w1.cell? ⟨w.heap.size, 6, none⟩ = some (.int .i64 a6) := (hI.cell (p := ⟨w.heap.size, 6, none⟩) (by simp)).trans (by simp)
      have c7 : w1.cell? ⟨w.heap.size, 7, none⟩ = some (.int .i64 a7) := (hI.cell (p := ⟨w.heap.size, 7, none⟩) (by simp)).trans (by simp)
      have c8 : w1.cell? ⟨w.heap.size, 8, none⟩ = some (.int .i64 a8) := (hI.cell (p := ⟨w.heap.size, 8, none⟩) (by simp)).trans (by simp)
      have hsz : w.heap.size + 1 ≤ w1.heap.size := by have := hI.size; simpa using this
      go_simp
    · refine (H1.out _).mono ?_
      rintro e w' ⟨rfl, hb⟩
      exact ⟨rfl, hI.trans (hb.mono hsz)⟩
    · refine (H2.out _).mono ?_
      rintro e w' ⟨rfl, hb⟩
      exact ⟨rfl, hI.trans (hb.mono hsz)⟩
    · refine (H3.out _).mono ?_
      rintro e w' ⟨rfl, hb⟩
      exact ⟨rfl, hI.trans (hb.mono hsz)⟩
  · intro w1 hI
    go_simp
    go_wp2
    go_ret
    exact ⟨rfl, ((Below.refl w.heap.size w).alloc (Nat.le_refl _) _).trans (hI.mono (by simp))⟩

set_option maxRecDepth 100000 in
theorem maskBeasts_law {H : Type} {enc : TypeId × Value → H} (W : World) (base : Nat) (args : Array Value) (ds : List (DataW H)) (ps : List MemPlace)
    (hval : ∀ (j : Nat) t v, Try.f5.params[j]? = some t → args[j]? = some v → Value.okWide Try.prog W .any base t v)
    (hA : DataW.TrodAll enc Try.prog W 0 (fun _ => true) true Try.f5.params.toList args.toList ds ps) (_ : ∀ p ∈ ps, p.block < W.heap.size) :
    Calls Try.prog 5 args W fun e W' => e = .returned (.bool true) ∧ Below W.heap.size W W' := by
  rw [Try.params5] at hA hval
  obtain ⟨v0, d0, rfl, rfl, h0⟩ := trodAll_one hA
  obtain ⟨cs, rfl, -⟩ := okWide_struct Try.underlying34 (hval 0 34 v0 rfl rfl)
  obtain ⟨zs, rfl, hl, -⟩ := open_flat intCells_Beast h0
  have hl : zs.length = 9 := hl.trans (by kernel_rfl)
  match zs, hl with
  | [a0, a1, a2, a3, a4, a5, a6, a7, a8], _ => exact maskBeasts_any a0 a1 a2 a3 a4 a5 a6 a7 a8 W

set_option maxRecDepth 100000 in
theorem maskBeasts_lifted (os : Os) (started : os.Started) (H : Type) (enc : TypeId × Value → H) :
    ReturnsInHanded {} Try.checked os 5 .any (Rows.maskBeastsSpec.pre6 enc Try.prog Try.f5 Rows.maskBeastsRow.domain false) (Rows.maskBeastsSpec.post enc Try.prog Try.f5 false true false false) := by
  refine law_lifted (C := Try.checked) (tb := 4) started own_ laid_ (by kernel_rfl) Try.func5 ?_ rfl rfl (by kernel_rfl) (fun ds h => ?_)
    (ChangeSpec.witness6 (enc := enc) (C := Try.checked) false ⟨#[], #[.agg #[.int .i64 0, .int .i64 0, .int .i64 0, .int .i64 0, .int .i64 0, .int .i64 0, .int .i64 0, .int .i64 0, .int .i64 0]], []⟩ 8 (by kernel_rfl) (by kernel_rfl) (by kernel_rfl) (by kernel_rfl)) ?_
  · intro t ht
    have : t = 34 := by simpa [Try.params5] using ht
    rcases this with rfl
    all_goals exact ⟨by kernel_rfl, of_decide_eq_true (by kernel_rfl)⟩
  · match ds, h with
    | [d0], _ => rfl
  · intro W base args ds ps hval hA hlt
    exact maskBeasts_law W base args ds ps hval hA hlt

set_option maxHeartbeats 4000000 in
theorem maskBeasts_closed : joinedFacts Try.prog 5 Try.f5 Rows.maskBeastsSpec Rows.maskBeastsRow = true := by
  unfold joinedFacts
  repeat' (with_reducible refine and_intro ?_ ?_)
  · as_aux_lemma => kernel_rfl
  · exact laid_
  · exact mapsRowed_
  · as_aux_lemma => kernel_rfl
  · as_aux_lemma => kernel_rfl
  · as_aux_lemma => kernel_rfl
  · exact stops_
  · as_aux_lemma => kernel_rfl
  · exact stopKnobs_
  · as_aux_lemma => kernel_rfl
  · as_aux_lemma => kernel_rfl
  · as_aux_lemma => kernel_rfl
  · as_aux_lemma => kernel_rfl
  · as_aux_lemma => kernel_rfl
  · as_aux_lemma => kernel_rfl
  · as_aux_lemma => kernel_rfl
  · as_aux_lemma => kernel_rfl
  · as_aux_lemma => kernel_rfl
  · as_aux_lemma => kernel_rfl
  · as_aux_lemma => kernel_rfl
  · as_aux_lemma => kernel_rfl
  · as_aux_lemma => kernel_rfl
  · exact plainKeys_
  · as_aux_lemma => kernel_rfl
  · exact stopsHeard_
  · exact mayEnter_
  · exact liftsFinal_
  · exact make_
  · as_aux_lemma => kernel_rfl
  · as_aux_lemma => kernel_rfl
  · as_aux_lemma => kernel_rfl
  · as_aux_lemma => kernel_rfl

theorem maskBeasts_holds : Rows.MaskBeastsSaid :=
  OpenClaim.holds_of_wide 5 Try.f5 rfl rfl rfl rfl rfl rfl rfl ⟨rfl, rfl, rfl, rfl, rfl⟩ rfl rfl rfl rfl rfl (by as_aux_lemma => kernel_rfl) Try.func5 maskBeasts_closed
    (of_decide_eq_true (by as_aux_lemma => kernel_rfl)) (by unfold Func.isWrapper; first | (rw [if_pos (by decide +kernel)]; kernel_rfl) | (rw [if_neg (by decide +kernel)]; exact ⟨rfl, rfl⟩))
    (fun os started H enc _ => maskBeasts_lifted os started H enc)
#print axioms maskBeasts_holds
end Go.Proofs.Ythbbjbcojhljfaa
