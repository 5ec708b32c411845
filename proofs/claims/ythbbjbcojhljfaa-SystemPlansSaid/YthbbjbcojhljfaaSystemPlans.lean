/- The law SystemPlans returns true for every input. -/
import Derived.Test.YthbbjbcojhljfaaRows
import Derived.Test.YthbbjbcojhljfaaClosed
import Derived.Test.YthbbjbcojhljfaaLaw
import Derived.Test.YthbbjbcojhljfaaEqInt
import Derived.Test.YthbbjbcojhljfaaTypes
import Derived.Test.YthbbjbcojhljfaaOpen
import Derived.Test.YthbbjbcojhljfaaRPlan
import Derived.Test.YthbbjbcojhljfaaMod
namespace Go.Proofs.Ythbbjbcojhljfaa
open Go.ChangeShapes Go.WideShapes Go.ChangeAt Go.RowKit

theorem plan_any (A : Option Addr) (c : Nat) (l : List Sy) (w : World) (hl : l.length ≤ 9223372036854775807) (hA : Lies w w.heap.size A (sysCells l)) :
    Calls Try.prog 37 #[.slice A l.length c] w (PlanPost l w) := by
  rcases Nat.lt_or_ge 20 l.length with h | h
  · exact sys_many A c l w h hl
  · by_cases he : firstE l = 0
    · exact plan_ok A c l w h hA he
    · exact plan_bad A c l w h hA he
theorem rplan_any (A : Option Addr) (c : Nat) (l : List Sy) (w : World) (hl : l.length ≤ 9223372036854775807) (hA : Lies w w.heap.size A (sysCells l)) :
    Calls Try.prog 38 #[.slice A l.length c] w (PlanPost l w) := by
  rcases Nat.lt_or_ge 20 l.length with h | h
  · exact rsys_many A c l w h hl
  · by_cases he : firstE l = 0
    · exact rplan_ok A c l w h hA he
    · exact rplan_bad A c l w h hA he
theorem planL_len (l : List Sy) : (planL l).length ≤ 20 := by
  unfold planL
  split
  · next h =>
    rw [planTo_len]
    unfold planE at h
    split at h
    · omega
    · omega
  · simp

attribute [local go_sem] AllFrom.cons_eq AllFrom.nil_eq putL_nil putL_cons wantedL_none wantedL_some OpGoalM YieldsJ

set_option maxHeartbeats 4000000 in
theorem systemPlans_any (A : Option Addr) (c : Nat) (l : List Sy) (p q : Sy) (w : World) (hl : l.length ≤ 9223372036854775807) (hA : Lies w w.heap.size A (sysCells l)) :
    Calls Try.prog 9 #[.slice A l.length c, p.val, q.val] w fun e w' => e = .returned (.bool true) ∧ Below w.heap.size w w' := by
  have h1 := fun w hA => plan_any A c l w hl hA
  have h2 := fun w hA => rplan_any A c l w hl hA
  have h3 := fun w => clash_any p q w
  have h4 := fun w => refClash_any p q w
  have h5 := fun w => sysCheck_any 0 0 0 0 0 0 0 w
  have hL := planL_len l
  obtain ⟨n, t, s0, r, s, d, x⟩ := p
  obtain ⟨n', t', s0', r', s', d', x'⟩ := q
  simp only [Sy.val] at h3 h4
  generalize clashB _ _ = b at *
  have H1 := Lib.hid h1; have H2 := Lib.hid h2; have H3 := Lib.hid h3; have H4 := Lib.hid h4; have H5 := Lib.hid h5; have HA := Lib.hid hA
  clear h1 h2 h3 h4 h5 hA
  simp only [Sy.val]
  go_enter Try.func9, Try.ntmps9
  go_wp2_with fail
  obtain ⟨w0, hw0⟩ : ∃ w0, (w.alloc (.cells #[.int .i64 n, .int .i64 t, .int .i64 s0, .int .i64 r, .int .i64 s, .int .i64 d, .int .i64 x] 39)).alloc (.cells #[.int .i64 n', .int .i64 t', .int .i64 s0', .int .i64 r', .int .i64 s', .int .i64 d', .int .i64 x'] 39) = w0 := ⟨_, rfl⟩
  have hb0 : Below w.heap.size w w0 := by rw [← hw0]; exact ((Below.refl w.heap.size w).alloc (Nat.le_refl _) _).alloc (by simp) _
  have hk1 : w0.heap[w.heap.size]? = some (.cells #[.int .i64 n, .int .i64 t, .int .i64 s0, .int .i64 r, .int .i64 s, .int .i64 d, .int .i64 x] 39 (0, 0)) := by
    rw [← hw0, Below.heap_alloc _ _ _ (by simp)]; exact heap_alloc_new w _
  have hk2 : w0.heap[w.heap.size + 1]? = some (.cells #[.int .i64 n', .int .i64 t', .int .i64 s0', .int .i64 r', .int .i64 s', .int .i64 d', .int .i64 x'] 39 (0, 0)) := by
    rw [← hw0]
    have e := heap_alloc_new (w.alloc (.cells #[.int .i64 n, .int .i64 t, .int .i64 s0, .int .i64 r, .int .i64 s, .int .i64 d, .int .i64 x] 39)) (.cells #[.int .i64 n', .int .i64 t', .int .i64 s0', .int .i64 r', .int .i64 s', .int .i64 d', .int .i64 x'] 39)
    simpa using e
  have hs0 : w0.heap.size = w.heap.size + 2 := by rw [← hw0]; simp
  rw [hw0]
  clear hw0
  refine (H1.out _ ((HA.out.below hb0).mono hb0.size)).mono ?_
  rintro e w1 ⟨v1, rfl, hown1, hb1⟩
  obtain ⟨A1, c1, rfl, hc1, hl1⟩ := own_lies hown1
  have HL1 := Lib.hid hl1; have HO1 := Lib.hid hown1
  clear hl1 hown1
  have hb01 := hb0.trans (hb1.mono hb0.size)
  go_wp2_with fail
  refine (H2.out _ ((HA.out.below hb01).mono hb01.size)).mono ?_
  rintro e w2 ⟨v2, rfl, hown2, hb2⟩
  obtain ⟨A2, c2, rfl, hc2, hl2⟩ := own_lies hown2
  have HL2 := Lib.hid hl2
  have HL1b := Lib.hid ((HL1.out.below hb2))
  clear hl2 hown2
  have hb02 := hb01.trans (hb2.mono hb01.size)
  have hs2 := hb1.size
  have hs3 := hb2.size
  have K1 := Lib.hid (((hb2.block _ (by omega)).trans (hb1.block _ (by omega))).trans hk1)
  have K2 := Lib.hid (((hb2.block _ (by omega)).trans (hb1.block _ (by omega))).trans hk2)
  have HB := Lib.hid hb02
  clear hk1 hk2 hb02 hb01 hb1 hb2 hb0
  generalize planE l = er at *
  generalize planL l = L at *
  go_wp2_with fail
  refine wp_planM [some 21, some 22, some 23, some 24, some 25, some 26, some 27, some 28, some 29, some 30, some 31, some 32, some 33, some 34, some 35, some 36, some 37, some 38, some 39, some 40, some 41, some 42, some 6] [[], [], [0, 1], [0, 1, 2], [0, 1, 2, 3], [0, 1, 2, 3], [0, 1, 2, 3, 4, 5], [0, 1, 2, 3, 4, 5, 6], [0, 1, 2, 3, 4, 5, 6, 7], [0, 1, 2, 3, 4, 5, 6, 7, 8], [0, 1, 2, 3, 4, 5, 6, 7, 8], [0, 1, 2, 3, 4, 5, 6, 7, 8, 9, 10], [0, 1, 2, 3, 4, 5, 6, 7, 8], [0, 1, 2, 3, 4, 5, 6, 7, 8], [0, 1, 2, 3, 4, 5, 6, 7, 8, 9, 10, 11, 12, 13], [0, 1, 2, 3, 4, 5, 6, 7, 8, 9, 10, 11, 12, 13, 14], [0, 1, 2, 3, 4, 5, 6, 7, 8, 9, 10, 11, 12, 13, 14, 15], [0, 1, 2, 3, 4, 5, 6, 7, 8, 9, 10, 11, 12, 13, 14, 15, 16], [0, 1, 2, 3, 4, 5, 6, 7, 8, 9, 10, 11, 12, 13, 14, 15, 16, 17], [0, 1, 2, 3, 4, 5, 6, 7, 8, 9, 10, 11, 12, 13, 14, 15, 16, 17, 18], [0, 1, 2, 3, 4, 5, 6, 7, 8, 9, 10, 11, 12, 13, 14, 15, 16, 17, 18, 19], [0, 1, 2, 3, 4, 5, 6, 7, 8, 9, 10, 11, 12, 13, 14, 15, 16, 17, 18, 19, 20], [0, 1, 2, 3, 4, 5, 6, 7, 8, 9, 10, 11, 12, 13, 14, 15, 16, 17, 18, 19, 20, 21]] [.slice A1 L.length c1, .slice A2 L.length c2, .bool true, .bool true, .int .i64 er, .int .i64 er, .bool true, .bool true, .bool true, .agg #[.int .i64 n, .int .i64 t, .int .i64 s0, .int .i64 r, .int .i64 s, .int .i64 d, .int .i64 x], .agg #[.int .i64 n', .int .i64 t', .int .i64 s0', .int .i64 r', .int .i64 s', .int .i64 d', .int .i64 x'], .bool b, .agg #[.int .i64 n, .int .i64 t, .int .i64 s0, .int .i64 r, .int .i64 s, .int .i64 d, .int .i64 x], .agg #[.int .i64 n', .int .i64 t', .int .i64 s0', .int .i64 r', .int .i64 s', .int .i64 d', .int .i64 x'], .bool b, .bool true, .bool true, .bool true, .agg #[.int .i64 0, .int .i64 0, .int .i64 0, .int .i64 0, .int .i64 0, .int .i64 0, .int .i64 0], .int .i64 1, .bool true, .bool true, .bool true]
    (fun w' => Below w2.heap.size w2 w') mixed rfl (by kernel_rfl) (Below.refl _ _).drew ?_ ?_
  · simp only [AllFrom.cons_eq, AllFrom.nil_eq, OpGoalM, wantedL_none, ↓reduceIte]
    refine ⟨?_, ?_, ?_, ?_, ?_, ?_, ?_, ?_, ?_, ?_, ?_, ?_, ?_, ?_, ?_, ?_, ?_, ?_, ?_, ?_, ?_, ?_, ?_, trivial⟩
    · intro w1 hI
      go_simp
    · intro w1 hI
      go_simp
    · intro w1 hI
      go_simp
      refine (eqInt_any A1 c1 A2 c2 L L _ _ w1 (by omega) (by omega) (HL1b.out.below (hI.mono (by omega))) (HL2.out.below hI)).mono ?_
      rintro e w' ⟨rfl, rfl⟩
      simp only [eqB_self]
      exact ⟨trivial, hI⟩
    · intro w1 hI
      go_simp
    · intro w1 hI
      go_simp
    · intro w1 hI
      go_simp
    · intro w1 hI
      go_simp
    · intro w1 hI
      go_simp
    · intro w1 hI
      go_simp
    · intro w1 hI
      have hcc := fun i => blk_cell ((hI.block _ (by omega)).trans K1.out) i
      go_simp
    · intro w1 hI
      have hcc := fun i => blk_cell ((hI.block _ (by omega)).trans K2.out) i
      go_simp
    · intro w1 hI
      go_simp
      refine (H3.out _).mono ?_
      rintro e w' ⟨rfl, hb⟩
      exact ⟨rfl, hI.trans (hb.mono hI.size)⟩
    · intro w1 hI
      have hcc := fun i => blk_cell ((hI.block _ (by omega)).trans K1.out) i
      go_simp
    · intro w1 hI
      have hcc := fun i => blk_cell ((hI.block _ (by omega)).trans K2.out) i
      go_simp
    · intro w1 hI
      go_simp
      refine (H4.out _).mono ?_
      rintro e w' ⟨rfl, hb⟩
      exact ⟨rfl, hI.trans (hb.mono hI.size)⟩
    · intro w1 hI
      go_simp
    · intro w1 hI
      go_simp
    · intro w1 hI
      go_simp
    · intro w1 hI
      go_simp
    · intro w1 hI
      go_simp
      refine (H5.out _).mono ?_
      rintro e w' ⟨rfl, hb⟩
      exact ⟨rfl, hI.trans (hb.mono hI.size)⟩
    · intro w1 hI
      go_simp
    · intro w1 hI
      go_simp
    · intro w1 hI
      go_simp
  · intro w1 hI
    go_simp
    go_wp2
    go_ret
    exact ⟨rfl, HB.out.trans (hI.mono HB.out.size)⟩

set_option maxRecDepth 100000 in
theorem systemPlans_law {H : Type} {enc : TypeId × Value → H} (W : World) (base : Nat) (args : Array Value) (ds : List (DataW H)) (ps : List MemPlace)
    (hval : ∀ (j : Nat) t v, Try.f9.params[j]? = some t → args[j]? = some v → Value.okWide Try.prog W .any base t v)
    (hA : DataW.TrodAll enc Try.prog W 0 (fun _ => true) true Try.f9.params.toList args.toList ds ps) (hlt : ∀ p ∈ ps, p.block < W.heap.size) :
    Calls Try.prog 9 args W fun e W' => e = .returned (.bool true) ∧ Below W.heap.size W W' := by
  rw [Try.params9] at hA hval
  obtain ⟨v0, v1, v2, d0, d1, d2, p0, p1, p2, rfl, rfl, rfl, h0, h1, h2⟩ := trodAll_three hA
  obtain ⟨A, n, c, zs, rfl, hn, hc, hl, -, hL⟩ := open_slice_flat Try.underlying46 intCells_System (k := 7) (by kernel_rfl) (by decide) (hval 0 46 v0 rfl rfl) h0 (fun p hp => hlt p (by simp [hp]))
  obtain ⟨l, rfl, rfl⟩ := unflat Sy.cells 7 Sy.mk_cells n zs hl
  obtain ⟨cs, rfl, -⟩ := okWide_struct Try.underlying39 (hval 1 39 v1 rfl rfl)
  obtain ⟨y1, rfl, hy1, -⟩ := open_flat intCells_System h1
  obtain ⟨cs2, rfl, -⟩ := okWide_struct Try.underlying39 (hval 2 39 v2 rfl rfl)
  obtain ⟨y2, rfl, hy2, -⟩ := open_flat intCells_System h2
  obtain ⟨p, rfl⟩ := Sy.mk_cells y1 (hy1.trans (by kernel_rfl))
  obtain ⟨q, rfl⟩ := Sy.mk_cells y2 (hy2.trans (by kernel_rfl))
  exact systemPlans_any A c l p q W (by omega) hL

set_option maxRecDepth 100000 in
theorem systemPlans_lifted (os : Os) (started : os.Started) (H : Type) (enc : TypeId × Value → H) :
    ReturnsInHanded {} Try.checked os 9 .any (Rows.systemPlansSpec.pre6 enc Try.prog Try.f9 Rows.systemPlansRow.domain false) (Rows.systemPlansSpec.post enc Try.prog Try.f9 false true false false) := by
  refine law_lifted (C := Try.checked) (tb := 4) started own_ laid_ (by kernel_rfl) Try.func9 ?_ rfl rfl (by kernel_rfl) (fun ds h => ?_)
    (ChangeSpec.witness6 (enc := enc) (C := Try.checked) false ⟨#[], #[.slice none 0 0, .agg #[.int .i64 0, .int .i64 0, .int .i64 0, .int .i64 0, .int .i64 0, .int .i64 0, .int .i64 0], .agg #[.int .i64 0, .int .i64 0, .int .i64 0, .int .i64 0, .int .i64 0, .int .i64 0, .int .i64 0]], []⟩ 8 (by kernel_rfl) (by kernel_rfl) (by kernel_rfl) (by kernel_rfl)) ?_
  · intro t ht
    have : t = 46 ∨ t = 39 ∨ t = 39 := by simpa [Try.params9] using ht
    rcases this with rfl | rfl | rfl
    all_goals exact ⟨by kernel_rfl, of_decide_eq_true (by kernel_rfl)⟩
  · match ds, h with
    | [d0, d1, d2], _ => rfl
  · intro W base args ds ps hval hA hlt
    exact systemPlans_law W base args ds ps hval hA hlt

set_option maxHeartbeats 4000000 in
theorem systemPlans_closed : joinedFacts Try.prog 9 Try.f9 Rows.systemPlansSpec Rows.systemPlansRow = true := by
  unfold joinedFacts
  repeat' (with_reducible refine and_intro ?_ ?_)
  · as_aux_lemma => kernel_rfl
  · exact laid_
  · exact mapsRowed_
  · as_aux_lemma => kernel_rfl
  · as_aux_lemma => kernel_rfl
  · as_aux_lemma => kernel_rfl
  · exact stops_
  · as_aux_lemma => kernel_rfl
  · exact stopKnobs_
  · as_aux_lemma => kernel_rfl
  · as_aux_lemma => kernel_rfl
  · as_aux_lemma => kernel_rfl
  · as_aux_lemma => kernel_rfl
  · as_aux_lemma => kernel_rfl
  · as_aux_lemma => kernel_rfl
  · as_aux_lemma => kernel_rfl
  · as_aux_lemma => kernel_rfl
  · as_aux_lemma => kernel_rfl
  · as_aux_lemma => kernel_rfl
  · as_aux_lemma => kernel_rfl
  · as_aux_lemma => kernel_rfl
  · as_aux_lemma => kernel_rfl
  · exact plainKeys_
  · as_aux_lemma => kernel_rfl
  · exact stopsHeard_
  · exact mayEnter_
  · exact liftsFinal_
  · exact make_
  · as_aux_lemma => kernel_rfl
  · as_aux_lemma => kernel_rfl
  · as_aux_lemma => kernel_rfl
  · as_aux_lemma => kernel_rfl

theorem systemPlans_holds : Rows.SystemPlansSaid :=
  OpenClaim.holds_of_wide 9 Try.f9 rfl rfl rfl rfl rfl rfl rfl ⟨rfl, rfl, rfl, rfl, rfl⟩ rfl rfl rfl rfl rfl (by as_aux_lemma => kernel_rfl) Try.func9 systemPlans_closed
    (of_decide_eq_true (by as_aux_lemma => kernel_rfl)) (by unfold Func.isWrapper; first | (rw [if_pos (by decide +kernel)]; kernel_rfl) | (rw [if_neg (by decide +kernel)]; exact ⟨rfl, rfl⟩))
    (fun os started H enc _ => systemPlans_lifted os started H enc)
#print axioms systemPlans_holds
end Go.Proofs.Ythbbjbcojhljfaa
