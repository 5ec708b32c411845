/- The reference's Step at a beast that does not match; the program's Step. -/
import Derived.Test.YtkcpmoinpdojjaaStep2
namespace Go.Proofs.Ytkcpmoinpdojjaa
open Go Go.RowKit

attribute [local go_sem] AllFrom.cons_eq AllFrom.nil_eq putF_nil putF_cons wantedL_none wantedL_some OpGoalT OpGoalS OpGoalP OpGoalV YieldsR preF_nil preF_cons

set_option maxRecDepth 20000 in
set_option maxHeartbeats 4000000 in
theorem rstep_no (K a0 a1 a2 a3 a4 a5 a6 a7 n t a r s d x : Int) (w : World) (hn : InR n) (hm : matchesB K n t a = false) :
    Calls Try.prog 17 #[.agg #[.int .i64 K, .int .i64 a0, .int .i64 a1, .int .i64 a2, .int .i64 a3, .int .i64 a4, .int .i64 a5, .int .i64 a6, .int .i64 a7], .agg #[.int .i64 n, .int .i64 t, .int .i64 a, .int .i64 r, .int .i64 s, .int .i64 d, .int .i64 x]] w fun e w' => e = .returned (btV K [a0, a1, a2, a3, a4, a5, a6, a7]) ∧ Below w.heap.size w w' := by
  have h1 := fun w => refMatches_any K n t a hn w
  rw [hm] at h1
  have H1 := Lib.hid h1
  clear h1 hm hn
  go_enter Try.func17, Try.ntmps17
  go_wp2_with fail
  refine (H1.out _).mono ?_
  rintro e w1 ⟨rfl, hb1⟩
  obtain ⟨k2, k3, k4, hbb, hz2⟩ := do_boxes hb1
  have HB := Lib.hid hbb
  have c0 := blk_cell k2 0
  have c1 := blk_cell k2 1
  have c2 := blk_cell k2 2
  have c3 := blk_cell k2 3
  have c4 := blk_cell k2 4
  have c5 := blk_cell k2 5
  have c6 := blk_cell k2 6
  have c7 := blk_cell k2 7
  have c8 := blk_cell k2 8
  have z0 := blk_cell k4 0
  have z1 := blk_cell k4 1
  have z2 := blk_cell k4 2
  have z3 := blk_cell k4 3
  have z4 := blk_cell k4 4
  have z5 := blk_cell k4 5
  have z6 := blk_cell k4 6
  have z7 := blk_cell k4 7
  have z8 := blk_cell k4 8
  simp only [List.getElem?_toArray, List.getElem?_cons_zero, List.getElem?_cons_succ] at c0 z0 c1 z1 c2 z2 c3 z3 c4 z4 c5 z5 c6 z6 c7 z7 c8 z8
  have f0 := blk_free k4 0
  have f1 := blk_free k4 1
  have f2 := blk_free k4 2
  have f3 := blk_free k4 3
  have f4 := blk_free k4 4
  have f5 := blk_free k4 5
  have f6 := blk_free k4 6
  have f7 := blk_free k4 7
  have f8 := blk_free k4 8
  have l2 := blk_lt k2
  have l4 := blk_lt k4
  clear k2 k3 k4 hbb hb1 H1
  go_wp2
  refine bodyPost_ret (v := .agg #[.int .i64 K, .int .i64 a0, .int .i64 a1, .int .i64 a2, .int .i64 a3, .int .i64 a4, .int .i64 a5, .int .i64 a6, .int .i64 a7]) (by unfold results; try go_simp) rfl ?_
  refine ⟨rfl, Mod.toBelow (F := []) ?_ (by simp) (Nat.le_refl _)⟩
  repeat (refine Mod.setCell ?_ (.inr (by simp only; omega)) _)
  exact Mod.ofBelow HB.out

theorem eqlBeast (w : World) (a b : List Int) (ha : a.length = 9) (hb : b.length = 9) : (binOp .eql 24 (.agg (ints a).toArray) (.agg (ints b).toArray)).run Try.prog w = .ok (.bool (eqB a b)) w :=
  (esBeast 9997).eqlI w a b ha hb rfl rfl

/-- What Step returns: a beast, and what is wrong. -/
def stepB (b : Value) (z : Int) : Value := .tuple #[b, .int .i64 z]

set_option maxRecDepth 20000 in
set_option maxHeartbeats 4000000 in
theorem step_sys (K a0 a1 a2 a3 a4 a5 a6 a7 n t a r s d x : Int) (w : World) (h : sysE n t a r s d x ≠ 0) :
    Calls Try.prog 13 #[.agg #[.int .i64 K, .int .i64 a0, .int .i64 a1, .int .i64 a2, .int .i64 a3, .int .i64 a4, .int .i64 a5, .int .i64 a6, .int .i64 a7], .agg #[.int .i64 n, .int .i64 t, .int .i64 a, .int .i64 r, .int .i64 s, .int .i64 d, .int .i64 x]] w fun e w' => e = .returned (stepB (.agg #[.int .i64 0, .int .i64 0, .int .i64 0, .int .i64 0, .int .i64 0, .int .i64 0, .int .i64 0, .int .i64 0, .int .i64 0]) (sysE n t a r s d x)) ∧ Below w.heap.size w w' := by
  have h1 := fun w => sysCheck_any n t a r s d x w
  generalize sysE n t a r s d x = q at *
  have hq : (q != 0) = true := by simpa using h
  have H1 := Lib.hid h1
  clear h1 h
  go_enter Try.func13, Try.ntmps13
  go_wp2_with fail
  refine (H1.out _).mono ?_
  rintro e w1 ⟨rfl, hb1⟩
  obtain ⟨k2, k3, k4, hbb, hz2⟩ := do_boxes hb1
  have HB := Lib.hid hbb
  have z0 := blk_cell k4 0
  have z1 := blk_cell k4 1
  have z2 := blk_cell k4 2
  have z3 := blk_cell k4 3
  have z4 := blk_cell k4 4
  have z5 := blk_cell k4 5
  have z6 := blk_cell k4 6
  have z7 := blk_cell k4 7
  have z8 := blk_cell k4 8
  simp only [List.getElem?_toArray, List.getElem?_cons_zero, List.getElem?_cons_succ] at z0 z1 z2 z3 z4 z5 z6 z7 z8
  have f0 := blk_free k4 0
  have f1 := blk_free k4 1
  have f2 := blk_free k4 2
  have f3 := blk_free k4 3
  have f4 := blk_free k4 4
  have f5 := blk_free k4 5
  have f6 := blk_free k4 6
  have f7 := blk_free k4 7
  have f8 := blk_free k4 8
  have l4 := blk_lt k4
  clear k2 k3 k4 hbb hb1 H1
  go_wp2
  refine bodyPost_ret (v := .tuple #[.agg #[.int .i64 0, .int .i64 0, .int .i64 0, .int .i64 0, .int .i64 0, .int .i64 0, .int .i64 0, .int .i64 0, .int .i64 0], .int .i64 q]) (by unfold results; try go_simp) rfl ?_
  refine ⟨rfl, Mod.toBelow (F := []) ?_ (by simp) (Nat.le_refl _)⟩
  repeat (refine Mod.setCell ?_ (.inr (by simp only; omega)) _)
  exact Mod.ofBelow HB.out

set_option maxRecDepth 20000 in
set_option maxHeartbeats 4000000 in
theorem step_beast (K a0 a1 a2 a3 a4 a5 a6 a7 n t a r s d x : Int) (w : World) (h : sysE n t a r s d x = 0) (h' : beastE K [a0, a1, a2, a3, a4, a5, a6, a7] ≠ 0) :
    Calls Try.prog 13 #[.agg #[.int .i64 K, .int .i64 a0, .int .i64 a1, .int .i64 a2, .int .i64 a3, .int .i64 a4, .int .i64 a5, .int .i64 a6, .int .i64 a7], .agg #[.int .i64 n, .int .i64 t, .int .i64 a, .int .i64 r, .int .i64 s, .int .i64 d, .int .i64 x]] w fun e w' => e = .returned (stepB (.agg #[.int .i64 0, .int .i64 0, .int .i64 0, .int .i64 0, .int .i64 0, .int .i64 0, .int .i64 0, .int .i64 0, .int .i64 0]) (beastE K [a0, a1, a2, a3, a4, a5, a6, a7])) ∧ Below w.heap.size w w' := by
  have h1 := fun w => sysCheck_any n t a r s d x w
  have h2 := fun w => checkBeast_any K a0 a1 a2 a3 a4 a5 a6 a7 w
  rw [h] at h1
  generalize beastE K [a0, a1, a2, a3, a4, a5, a6, a7] = q at *
  have hq : (q != 0) = true := by simpa using h'
  have H1 := Lib.hid h1; have H2 := Lib.hid h2
  clear h1 h2 h h'
  go_enter Try.func13, Try.ntmps13
  go_wp2_with fail
  refine (H1.out _).mono ?_
  rintro e w1 ⟨rfl, hb1⟩
  obtain ⟨k2, k3, k4, hbb, hz2⟩ := do_boxes hb1
  have HB := Lib.hid hbb; have K2 := Lib.hid k2; have K3 := Lib.hid k3; have K4 := Lib.hid k4
  have c0 := blk_cell k2 0
  have c1 := blk_cell k2 1
  have c2 := blk_cell k2 2
  have c3 := blk_cell k2 3
  have c4 := blk_cell k2 4
  have c5 := blk_cell k2 5
  have c6 := blk_cell k2 6
  have c7 := blk_cell k2 7
  have c8 := blk_cell k2 8
  simp only [List.getElem?_toArray, List.getElem?_cons_zero, List.getElem?_cons_succ] at c0 c1 c2 c3 c4 c5 c6 c7 c8
  have l2 := blk_lt k2
  clear k2 k3 k4 hbb hb1 H1
  go_wp2_with fail
  refine (H2.out _).mono ?_
  rintro e w2 ⟨rfl, hb2⟩
  have hsz2 := hb2.size
  have HB2 := Lib.hid (HB.out.trans (hb2.mono (by omega)))
  have k2 := (Mod.ofBelow hb2).keep K2.out (by simp)
  have k3 := (Mod.ofBelow hb2).keep K3.out (by simp)
  have k4 := (Mod.ofBelow hb2).keep K4.out (by simp)
  clear c0 c1 c2 c3 c4 c5 c6 c7 c8 l2 hb2 H2 K2 K3
  have z0 := blk_cell k4 0
  have z1 := blk_cell k4 1
  have z2 := blk_cell k4 2
  have z3 := blk_cell k4 3
  have z4 := blk_cell k4 4
  have z5 := blk_cell k4 5
  have z6 := blk_cell k4 6
  have z7 := blk_cell k4 7
  have z8 := blk_cell k4 8
  simp only [List.getElem?_toArray, List.getElem?_cons_zero, List.getElem?_cons_succ] at z0 z1 z2 z3 z4 z5 z6 z7 z8
  have f0 := blk_free k4 0
  have f1 := blk_free k4 1
  have f2 := blk_free k4 2
  have f3 := blk_free k4 3
  have f4 := blk_free k4 4
  have f5 := blk_free k4 5
  have f6 := blk_free k4 6
  have f7 := blk_free k4 7
  have f8 := blk_free k4 8
  have l4 := blk_lt k4
  clear k4
  go_wp2
  refine bodyPost_ret (v := .tuple #[.agg #[.int .i64 0, .int .i64 0, .int .i64 0, .int .i64 0, .int .i64 0, .int .i64 0, .int .i64 0, .int .i64 0, .int .i64 0], .int .i64 q]) (by unfold results; try go_simp) rfl ?_
  refine ⟨rfl, Mod.toBelow (F := []) ?_ (by simp) (Nat.le_refl _)⟩
  repeat (refine Mod.setCell ?_ (.inr (by simp only; omega)) _)
  exact Mod.ofBelow HB2.out

set_option maxRecDepth 20000 in
set_option maxHeartbeats 4000000 in
theorem step_ok (K a0 a1 a2 a3 a4 a5 a6 a7 n t a r s d x b0 b1 b2 b3 b4 b5 b6 b7 : Int) (w : World) (h : sysE n t a r s d x = 0) (h' : beastE K [a0, a1, a2, a3, a4, a5, a6, a7] = 0)
    (hd : ∀ w, Calls Try.prog 61 #[.agg #[.int .i64 K, .int .i64 a0, .int .i64 a1, .int .i64 a2, .int .i64 a3, .int .i64 a4, .int .i64 a5, .int .i64 a6, .int .i64 a7], .agg #[.int .i64 n, .int .i64 t, .int .i64 a, .int .i64 r, .int .i64 s, .int .i64 d, .int .i64 x]] w fun e w' => e = .returned (.agg #[.int .i64 K, .int .i64 b0, .int .i64 b1, .int .i64 b2, .int .i64 b3, .int .i64 b4, .int .i64 b5, .int .i64 b6, .int .i64 b7]) ∧ Below w.heap.size w w') :
    Calls Try.prog 13 #[.agg #[.int .i64 K, .int .i64 a0, .int .i64 a1, .int .i64 a2, .int .i64 a3, .int .i64 a4, .int .i64 a5, .int .i64 a6, .int .i64 a7], .agg #[.int .i64 n, .int .i64 t, .int .i64 a, .int .i64 r, .int .i64 s, .int .i64 d, .int .i64 x]] w fun e w' => e = .returned (stepB (.agg #[.int .i64 K, .int .i64 b0, .int .i64 b1, .int .i64 b2, .int .i64 b3, .int .i64 b4, .int .i64 b5, .int .i64 b6, .int .i64 b7]) 0) ∧ Below w.heap.size w w' := by
  have h1 := fun w => sysCheck_any n t a r s d x w
  have h2 := fun w => checkBeast_any K a0 a1 a2 a3 a4 a5 a6 a7 w
  rw [h] at h1
  rw [h'] at h2
  have H1 := Lib.hid h1; have H2 := Lib.hid h2; have H3 := Lib.hid hd
  clear h1 h2 h h' hd
  go_enter Try.func13, Try.ntmps13
  go_wp2_with fail
  refine (H1.out _).mono ?_
  rintro e w1 ⟨rfl, hb1⟩
  obtain ⟨k2, k3, k4, hbb, hz2⟩ := do_boxes hb1
  have HB := Lib.hid hbb; have K2 := Lib.hid k2; have K3 := Lib.hid k3; have K4 := Lib.hid k4
  have c0 := blk_cell k2 0
  have c1 := blk_cell k2 1
  have c2 := blk_cell k2 2
  have c3 := blk_cell k2 3
  have c4 := blk_cell k2 4
  have c5 := blk_cell k2 5
  have c6 := blk_cell k2 6
  have c7 := blk_cell k2 7
  have c8 := blk_cell k2 8
  simp only [List.getElem?_toArray, List.getElem?_cons_zero, List.getElem?_cons_succ] at c0 c1 c2 c3 c4 c5 c6 c7 c8
  have l2 := blk_lt k2
  clear k2 k3 k4 hbb hb1 H1
  go_wp2_with fail
  refine (H2.out _).mono ?_
  rintro e w2 ⟨rfl, hb2⟩
  have hsz2 := hb2.size
  have HB2 := Lib.hid (HB.out.trans (hb2.mono (by omega)))
  have k2 := (Mod.ofBelow hb2).keep K2.out (by simp)
  have k3 := (Mod.ofBelow hb2).keep K3.out (by simp)
  have k4 := (Mod.ofBelow hb2).keep K4.out (by simp)
  clear c0 c1 c2 c3 c4 c5 c6 c7 c8 l2 hb2 H2 K2 K3
  have K24 := Lib.hid k4
  have c0 := blk_cell k2 0
  have c1 := blk_cell k2 1
  have c2 := blk_cell k2 2
  have c3 := blk_cell k2 3
  have c4 := blk_cell k2 4
  have c5 := blk_cell k2 5
  have c6 := blk_cell k2 6
  have c7 := blk_cell k2 7
  have c8 := blk_cell k2 8
  have s0 := blk_cell k3 0
  have s1 := blk_cell k3 1
  have s2 := blk_cell k3 2
  have s3 := blk_cell k3 3
  have s4 := blk_cell k3 4
  have s5 := blk_cell k3 5
  have s6 := blk_cell k3 6
  simp only [List.getElem?_toArray, List.getElem?_cons_zero, List.getElem?_cons_succ] at c0 c1 c2 c3 c4 c5 c6 c7 c8 s0 s1 s2 s3 s4 s5 s6
  have l2 := blk_lt k2
  have l3 := blk_lt k3
  clear k2 k3 k4 K4 HB
  go_wp2_with fail
  refine (H3.out _).mono ?_
  rintro e w3 ⟨rfl, hb3⟩
  have hsz3 := hb3.size
  have HB3 := Lib.hid (HB2.out.trans (hb3.mono (by omega)))
  have k4 := (Mod.ofBelow hb3).keep K24.out (by simp)
  clear c0 c1 c2 c3 c4 c5 c6 c7 c8 s0 s1 s2 s3 s4 s5 s6 l2 l3 hb3 H3 K24 HB2
  have z0 := blk_cell k4 0
  have z1 := blk_cell k4 1
  have z2 := blk_cell k4 2
  have z3 := blk_cell k4 3
  have z4 := blk_cell k4 4
  have z5 := blk_cell k4 5
  have z6 := blk_cell k4 6
  have z7 := blk_cell k4 7
  have z8 := blk_cell k4 8
  simp only [List.getElem?_toArray, List.getElem?_cons_zero, List.getElem?_cons_succ] at z0 z1 z2 z3 z4 z5 z6 z7 z8
  have f0 := blk_free k4 0
  have f1 := blk_free k4 1
  have f2 := blk_free k4 2
  have f3 := blk_free k4 3
  have f4 := blk_free k4 4
  have f5 := blk_free k4 5
  have f6 := blk_free k4 6
  have f7 := blk_free k4 7
  have f8 := blk_free k4 8
  have l4 := blk_lt k4
  clear k4
  go_wp2
  refine bodyPost_ret (v := .tuple #[.agg #[.int .i64 K, .int .i64 b0, .int .i64 b1, .int .i64 b2, .int .i64 b3, .int .i64 b4, .int .i64 b5, .int .i64 b6, .int .i64 b7], .int .i64 0]) (by unfold results; try go_simp) rfl ?_
  refine ⟨rfl, Mod.toBelow (F := []) ?_ (by simp) (Nat.le_refl _)⟩
  repeat (refine Mod.setCell ?_ (.inr (by simp only; omega)) _)
  exact Mod.ofBelow HB3.out
end Go.Proofs.Ytkcpmoinpdojjaa
