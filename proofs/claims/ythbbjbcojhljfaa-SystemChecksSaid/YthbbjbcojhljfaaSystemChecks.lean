/- The law SystemChecks returns true for every input. -/
import Derived.Test.YthbbjbcojhljfaaRows
import Derived.Test.YthbbjbcojhljfaaClosed
import Derived.Test.YthbbjbcojhljfaaLaw
import Derived.Test.YthbbjbcojhljfaaSys
import Derived.Test.YthbbjbcojhljfaaTypes
import Derived.Test.YthbbjbcojhljfaaOpen
namespace Go.Proofs.Ythbbjbcojhljfaa
open Go.ChangeShapes Go.WideShapes Go.ChangeAt Go.RowKit

attribute [local go_sem] AllFrom.cons_eq AllFrom.nil_eq putL_nil putL_cons wantedL_none wantedL_some OpGoalM YieldsJ

set_option maxHeartbeats 400000 in
theorem systemChecks_any (a0 a1 a2 a3 a4 a5 a6 : Int) (w : World) :
    Calls Try.prog 7 #[.agg #[.int .i64 a0, .int .i64 a1, .int .i64 a2, .int .i64 a3, .int .i64 a4, .int .i64 a5, .int .i64 a6]] w fun e w' => e = .returned (.bool true) ∧ Below w.heap.size w w' := by
  have h1 := fun w => sysCheck_any a0 a1 a2 a3 a4 a5 a6 w
  have h2 := fun w => sysRef_any a0 a1 a2 a3 a4 a5 a6 w
  have h3 := fun w => sysCheck_any 0 0 0 0 0 0 0 w
  have hz : sysE 0 0 0 0 0 0 0 = 1 := by decide
  rw [hz] at h3
  generalize sysE a0 a1 a2 a3 a4 a5 a6 = r at *
  have H1 := Lib.hid h1; have H2 := Lib.hid h2; have H3 := Lib.hid h3
  clear h1 h2 h3 hz
  go_enter Try.func7, Try.ntmps7
  go_wp2
  refine wp_planM [some 3, some 4, some 5, some 6, some 7, some 8, some 9, some 10, some 11, some 12, some 2] [[], [0], [], [0, 1, 2], [0, 1, 2, 3], [0, 1, 2, 3, 4], [0, 1, 2, 3, 4, 5], [0, 1, 2, 3, 4, 5, 6], [0, 1, 2, 3, 4, 5, 6, 7], [0, 1, 2, 3, 4, 5, 6, 7, 8], [0, 1, 2, 3, 4, 5, 6, 7, 8, 9]] [.agg #[.int .i64 a0, .int .i64 a1, .int .i64 a2, .int .i64 a3, .int .i64 a4, .int .i64 a5, .int .i64 a6], .int .i64 r, .agg #[.int .i64 a0, .int .i64 a1, .int .i64 a2, .int .i64 a3, .int .i64 a4, .int .i64 a5, .int .i64 a6], .int .i64 r, .bool true, .bool true, .agg #[.int .i64 0, .int .i64 0, .int .i64 0, .int .i64 0, .int .i64 0, .int .i64 0, .int .i64 0], .int .i64 1, .bool true, .bool true, .bool true]
    (fun w' => Below (w.heap.size + 1) (w.alloc (.cells #[.int .i64 a0, .int .i64 a1, .int .i64 a2, .int .i64 a3, .int .i64 a4, .int .i64 a5, .int .i64 a6] 39)) w') mixed rfl (by kernel_rfl) (Below.refl _ _).drew ?_ ?_
  · simp only [AllFrom.cons_eq, AllFrom.nil_eq, OpGoalM]
    refine ⟨?_, ?_, ?_, ?_, ?_, ?_, ?_, ?_, ?_, ?_, ?_, trivial⟩
    all_goals
      intro w1 hI
      have c0 : w1.cell? ⟨w.heap.size, 0, none⟩ = some (.int .i64 a0) := (hI.cell (p := ⟨w.heap.size, 0, none⟩) (by simp)).trans (by simp)
      have c1 : w1.cell? ⟨w.heap.size, 1, none⟩ = some (.int .i64 a1) := (hI.cell (p := ⟨w.heap.size, 1, none⟩) (by simp)).trans (by simp)
      have c2 : w1.cell? ⟨w.heap.size, 2, none⟩ = some (.int .i64 a2) := (hI.cell (p := ⟨w.heap.size, 2, none⟩) (by simp)).trans (by simp)
      have c3 : w1.cell? ⟨w.heap.size, 3, none⟩ = some (.int .i64 a3) := (hI.cell (p := ⟨w.heap.size, 3, none⟩) (by simp)).trans (by simp)
      have c4 : w1.cell? ⟨w.heap.size, 4, none⟩ = some (.int .i64 a4) := (hI.cell (p := ⟨w.heap.size, 4, none⟩) (by simp)).trans (by simp)
      have c5 : w1.cell? ⟨w.heap.size, 5, none⟩ = some (.int .i64 a5) := (hI.cell (p := ⟨w.heap.size, 5, none⟩) (by simp)).trans (by simp)
      have c6 : w1.cell? ⟨w.heap.size, 6, none⟩ = some (.int .i64 a6) := (hI.cell (p := ⟨w.heap.size, 6, none⟩) (by simp)).trans (by simp)
      have hsz : w.heap.size + 1 ≤ w1.heap.size := by have := hI.size; simpa using this
      go_simp
    · refine (H1.out _).mono ?_
      rintro e w' ⟨rfl, hb⟩
      exact ⟨rfl, hI.trans (hb.mono hsz)⟩
    · refine (H2.out _).mono ?_
      rintro e w' ⟨rfl, hb⟩
      exact ⟨rfl, hI.trans (hb.mono hsz)⟩
    · refine (H3.out _).mono ?_
      rintro e w' ⟨rfl, hb⟩
      exact ⟨rfl, hI.trans (hb.mono hsz)⟩
  · intro w1 hI
    go_simp
    go_wp2
    go_ret
    exact ⟨rfl, ((Below.refl w.heap.size w).alloc (Nat.le_refl _) _).trans (hI.mono (by simp))⟩

set_option maxRecDepth 100000 in
theorem systemChecks_law {H : Type} {enc : TypeId × Value → H} (W : World) (base : Nat) (args : Array Value) (ds : List (DataW H)) (ps : List MemPlace)
    (hval : ∀ (j : Nat) t v, Try.f7.params[j]? = some t → args[j]? = some v → Value.okWide Try.prog W .any base t v)
    (hA : DataW.TrodAll enc Try.prog W 0 (fun _ => true) true Try.f7.params.toList args.toList ds ps) (_ : ∀ p ∈ ps, p.block < W.heap.size) :
    Calls Try.prog 7 args W fun e W' => e = .returned (.bool true) ∧ Below W.heap.size W W' := by
  rw [Try.params7] at hA hval
  obtain ⟨v0, d0, rfl, rfl, h0⟩ := trodAll_one hA
  obtain ⟨cs, rfl, -⟩ := okWide_struct Try.underlying39 (hval 0 39 v0 rfl rfl)
  obtain ⟨zs, rfl, hl, -⟩ := open_flat intCells_System h0
  have hl : zs.length = 7 := hl.trans (by kernel_rfl)
  match zs, hl with
  | [a0, a1, a2, a3, a4, a5, a6], _ => exact systemChecks_any a0 a1 a2 a3 a4 a5 a6 W

set_option maxRecDepth 100000 in
theorem systemChecks_lifted (os : Os) (started : os.Started) (H : Type) (enc : TypeId × Value → H) :
    ReturnsInHanded {} Try.checked os 7 .any (Rows.systemChecksSpec.pre6 enc Try.prog Try.f7 Rows.systemChecksRow.domain false) (Rows.systemChecksSpec.post enc Try.prog Try.f7 false true false false) := by
  refine law_lifted (C := Try.checked) (tb := 4) started own_ laid_ (by kernel_rfl) Try.func7 ?_ rfl rfl (by kernel_rfl) (fun ds h => ?_)
    (ChangeSpec.witness6 (enc := enc) (C := Try.checked) false ⟨#[], #[.agg #[.int .i64 0, .int .i64 0, .int .i64 0, .int .i64 0, .int .i64 0, .int .i64 0, .int .i64 0]], []⟩ 8 (by kernel_rfl) (by kernel_rfl) (by kernel_rfl) (by kernel_rfl)) ?_
  · intro t ht
    have : t = 39 := by simpa [Try.params7] using ht
    rcases this with rfl
    all_goals exact ⟨by kernel_rfl, of_decide_eq_true (by kernel_rfl)⟩
  · match ds, h with
    | [d0], _ => rfl
  · intro W base args ds ps hval hA hlt
    exact systemChecks_law W base args ds ps hval hA hlt

set_option maxHeartbeats 4000000 in
theorem systemChecks_closed : joinedFacts Try.prog 7 Try.f7 Rows.systemChecksSpec Rows.systemChecksRow = true := by
  unfold joinedFacts
  repeat' (with_reducible refine and_intro ?_ ?_)
  · as_aux_lemma => kernel_rfl
  · exact laid_
  · exact mapsRowed_
  · as_aux_lemma => kernel_rfl
  · as_aux_lemma => kernel_rfl
  · as_aux_lemma => kernel_rfl
  · exact stops_
  · as_aux_lemma => kernel_rfl
  · exact stopKnobs_
  · as_aux_lemma => kernel_rfl
  · as_aux_lemma => kernel_rfl
  · as_aux_lemma => kernel_rfl
  · as_aux_lemma => kernel_rfl
  · as_aux_lemma => kernel_rfl
  · as_aux_lemma => kernel_rfl
  · as_aux_lemma => kernel_rfl
  · as_aux_lemma => kernel_rfl
  · as_aux_lemma => kernel_rfl
  · as_aux_lemma => kernel_rfl
  · as_aux_lemma => kernel_rfl
  · as_aux_lemma => kernel_rfl
  · as_aux_lemma => kernel_rfl
  · exact plainKeys_
  · as_aux_lemma => kernel_rfl
  · exact stopsHeard_
  · exact mayEnter_
  · exact liftsFinal_
  · exact make_
  · as_aux_lemma => kernel_rfl
  · as_aux_lemma => kernel_rfl
  · as_aux_lemma => kernel_rfl
  · as_aux_lemma => kernel_rfl

theorem systemChecks_holds : Rows.SystemChecksSaid :=
  OpenClaim.holds_of_wide 7 Try.f7 rfl rfl rfl rfl rfl rfl rfl ⟨rfl, rfl, rfl, rfl, rfl⟩ rfl rfl rfl rfl rfl (by as_aux_lemma => kernel_rfl) Try.func7 systemChecks_closed
    (of_decide_eq_true (by as_aux_lemma => kernel_rfl)) (by unfold Func.isWrapper; first | (rw [if_pos (by decide +kernel)]; kernel_rfl) | (rw [if_neg (by decide +kernel)]; exact ⟨rfl, rfl⟩))
    (fun os started H enc _ => systemChecks_lifted os started H enc)
#print axioms systemChecks_holds
end Go.Proofs.Ythbbjbcojhljfaa
