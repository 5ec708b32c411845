/- The program's Do. -/
import Derived.Test.YtkcpmoinpdojjaaStep1
namespace Go.Proofs.Ytkcpmoinpdojjaa
open Go Go.RowKit

attribute [local go_sem] AllFrom.cons_eq AllFrom.nil_eq putF_nil putF_cons wantedL_none wantedL_some OpGoalT OpGoalS OpGoalP OpGoalV YieldsR preF_nil preF_cons

def btV (K : Int) (l : List Int) : Value := .agg (Value.int .i64 K :: ints l).toArray

/-- The three blocks with which Do begins, behind a call that keeps the old ones. -/
theorem do_boxes {w w1 : World} {K a0 a1 a2 a3 a4 a5 a6 a7 n t a r s d x : Int} (hb : Below (((w.alloc (.cells #[.int .i64 K, .int .i64 a0, .int .i64 a1, .int .i64 a2, .int .i64 a3, .int .i64 a4, .int .i64 a5, .int .i64 a6, .int .i64 a7] 24)).alloc (.cells #[.int .i64 n, .int .i64 t, .int .i64 a, .int .i64 r, .int .i64 s, .int .i64 d, .int .i64 x] 28)).alloc (.cells #[.int .i64 0, .int .i64 0, .int .i64 0, .int .i64 0, .int .i64 0, .int .i64 0, .int .i64 0, .int .i64 0, .int .i64 0] 24)).heap.size (((w.alloc (.cells #[.int .i64 K, .int .i64 a0, .int .i64 a1, .int .i64 a2, .int .i64 a3, .int .i64 a4, .int .i64 a5, .int .i64 a6, .int .i64 a7] 24)).alloc (.cells #[.int .i64 n, .int .i64 t, .int .i64 a, .int .i64 r, .int .i64 s, .int .i64 d, .int .i64 x] 28)).alloc (.cells #[.int .i64 0, .int .i64 0, .int .i64 0, .int .i64 0, .int .i64 0, .int .i64 0, .int .i64 0, .int .i64 0, .int .i64 0] 24)) w1) :
    w1.heap[w.heap.size]? = some (.cells #[.int .i64 K, .int .i64 a0, .int .i64 a1, .int .i64 a2, .int .i64 a3, .int .i64 a4, .int .i64 a5, .int .i64 a6, .int .i64 a7] 24 (0, 0)) ∧ w1.heap[w.heap.size + 1]? = some (.cells #[.int .i64 n, .int .i64 t, .int .i64 a, .int .i64 r, .int .i64 s, .int .i64 d, .int .i64 x] 28 (0, 0)) ∧ w1.heap[w.heap.size + 2]? = some (.cells #[.int .i64 0, .int .i64 0, .int .i64 0, .int .i64 0, .int .i64 0, .int .i64 0, .int .i64 0, .int .i64 0, .int .i64 0] 24 (0, 0)) ∧ Below w.heap.size w w1 ∧ w.heap.size + 3 ≤ w1.heap.size := by
  have hs := hb.size
  simp only [World.size_alloc] at hs
  refine ⟨(hb.block _ (by simp only [World.size_alloc]; omega)).trans (blk_alloc (blk_alloc (heap_alloc_new w _) _) _), (hb.block _ (by simp only [World.size_alloc]; omega)).trans (blk_alloc (by have := heap_alloc_new (w.alloc (.cells #[.int .i64 K, .int .i64 a0, .int .i64 a1, .int .i64 a2, .int .i64 a3, .int .i64 a4, .int .i64 a5, .int .i64 a6, .int .i64 a7] 24)) (.cells #[.int .i64 n, .int .i64 t, .int .i64 a, .int .i64 r, .int .i64 s, .int .i64 d, .int .i64 x] 28); simpa using this) _), (hb.block _ (by simp only [World.size_alloc]; omega)).trans ?_, ?_, by omega⟩
  · have := heap_alloc_new ((w.alloc (.cells #[.int .i64 K, .int .i64 a0, .int .i64 a1, .int .i64 a2, .int .i64 a3, .int .i64 a4, .int .i64 a5, .int .i64 a6, .int .i64 a7] 24)).alloc (.cells #[.int .i64 n, .int .i64 t, .int .i64 a, .int .i64 r, .int .i64 s, .int .i64 d, .int .i64 x] 28)) (.cells #[.int .i64 0, .int .i64 0, .int .i64 0, .int .i64 0, .int .i64 0, .int .i64 0, .int .i64 0, .int .i64 0, .int .i64 0] 24)
    simpa using this
  · exact ((((Below.refl w.heap.size w).alloc (Nat.le_refl _) _).alloc (by simp) _).alloc (by simp; omega) _).trans (hb.mono (by simp; omega))

set_option maxRecDepth 20000 in
set_option maxHeartbeats 4000000 in
theorem do_no (K a0 a1 a2 a3 a4 a5 a6 a7 n t a r s d x : Int) (w : World) (hm : matchesB K n t a = false) :
    Calls Try.prog 61 #[.agg #[.int .i64 K, .int .i64 a0, .int .i64 a1, .int .i64 a2, .int .i64 a3, .int .i64 a4, .int .i64 a5, .int .i64 a6, .int .i64 a7], .agg #[.int .i64 n, .int .i64 t, .int .i64 a, .int .i64 r, .int .i64 s, .int .i64 d, .int .i64 x]] w fun e w' => e = .returned (btV K [a0, a1, a2, a3, a4, a5, a6, a7]) ∧ Below w.heap.size w w' := by
  have h1 := fun w => matches_any K n t a w
  rw [hm] at h1
  have H1 := Lib.hid h1
  clear h1 hm
  go_enter Try.func61, Try.ntmps61
  go_wp2_with fail
  refine (H1.out _).mono ?_
  rintro e w1 ⟨rfl, hb1⟩
  obtain ⟨k2, k3, k4, hbb, hz2⟩ := do_boxes hb1
  have HB := Lib.hid hbb
  have c0 := blk_cell k2 0
  have c1 := blk_cell k2 1
  have c2 := blk_cell k2 2
  have c3 := blk_cell k2 3
  have c4 := blk_cell k2 4
  have c5 := blk_cell k2 5
  have c6 := blk_cell k2 6
  have c7 := blk_cell k2 7
  have c8 := blk_cell k2 8
  have z0 := blk_cell k4 0
  have z1 := blk_cell k4 1
  have z2 := blk_cell k4 2
  have z3 := blk_cell k4 3
  have z4 := blk_cell k4 4
  have z5 := blk_cell k4 5
  have z6 := blk_cell k4 6
  have z7 := blk_cell k4 7
  have z8 := blk_cell k4 8
  simp only [List.getElem?_toArray, List.getElem?_cons_zero, List.getElem?_cons_succ] at c0 z0 c1 z1 c2 z2 c3 z3 c4 z4 c5 z5 c6 z6 c7 z7 c8 z8
  have f0 := blk_free k4 0
  have f1 := blk_free k4 1
  have f2 := blk_free k4 2
  have f3 := blk_free k4 3
  have f4 := blk_free k4 4
  have f5 := blk_free k4 5
  have f6 := blk_free k4 6
  have f7 := blk_free k4 7
  have f8 := blk_free k4 8
  have l2 := blk_lt k2
  have l4 := blk_lt k4
  clear k2 k3 k4 hbb hb1 H1
  go_wp2
  refine bodyPost_ret (v := .agg #[.int .i64 K, .int .i64 a0, .int .i64 a1, .int .i64 a2, .int .i64 a3, .int .i64 a4, .int .i64 a5, .int .i64 a6, .int .i64 a7]) (by unfold results; try go_simp) rfl ?_
  refine ⟨rfl, Mod.toBelow (F := []) ?_ (by simp) (Nat.le_refl _)⟩
  repeat (refine Mod.setCell ?_ (.inr (by simp only; omega)) _)
  exact Mod.ofBelow HB.out
end Go.Proofs.Ytkcpmoinpdojjaa
