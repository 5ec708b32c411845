/- The law SystemSteps returns true for every input. -/
import Derived.Test.YtkcpmoinpdojjaaRows
import Derived.Test.YtkcpmoinpdojjaaClosed
import Derived.Test.YtkcpmoinpdojjaaLaw
import Derived.Test.YtkcpmoinpdojjaaTypes
import Derived.Test.YtkcpmoinpdojjaaOpen
import Derived.Test.YtkcpmoinpdojjaaStep4
import Derived.Test.YtkcpmoinpdojjaaStep5
import Derived.Test.YtkcpmoinpdojjaaStep7
import Derived.Test.YtkcpmoinpdojjaaStep8
import Derived.Test.YtkcpmoinpdojjaaStep9
namespace Go.Proofs.Ytkcpmoinpdojjaa
open Go.ChangeShapes Go.WideShapes Go.ChangeAt Go.RowKit

attribute [local go_sem] AllFrom.cons_eq AllFrom.nil_eq putL_nil putL_cons wantedL_none wantedL_some OpGoalM YieldsJ

/-- What a system that may be is. -/
theorem sysE_ok {n t a r s d x : Int} (h : sysE n t a r s d x = 0) : isSetB r = true ∧ isSetB s = true ∧ (d = 1 ∨ d = 2 ∨ d = 3) ∧ -1000000 ≤ x ∧ x ≤ 1000000 := by
  unfold sysE at h
  repeat' split at h
  all_goals first | (exfalso; omega) | skip
  all_goals simp_all
  all_goals omega
theorem beastE_ok {K : Int} {vs : List Int} (h : beastE K vs = 0) : isSetB K = true ∧ ∀ v ∈ vs, -1000000000 ≤ v ∧ v ≤ 1000000000 := by
  unfold beastE at h
  split at h
  · next hK =>
    refine ⟨hK, ?_⟩
    have : ∀ (l : List Int) (k : Nat), beastGo K k l = 0 → ∀ v ∈ l, -1000000000 ≤ v ∧ v ≤ 1000000000 := by
      intro l
      induction l with
      | nil => intro k _ v hv; cases hv
      | cons y l ih =>
        intro k hk v hv
        unfold beastGo at hk
        split at hk
        · cases hk
        · split at hk
          · cases hk
          · rcases List.mem_cons.1 hv with rfl | hv
            · omega
            · exact ih _ hk v hv
    exact this vs 0 h
  · cases h

/-- Of both Steps, the same list. -/
theorem steps_same (d : Int) (hd : d = 1 ∨ d = 2 ∨ d = 3) (m : Nat) (hm : m < 256) : pRun d (natKinds m 8) (natKinds m 8).length = sRun d m (rEnd d (rRun d m 8)) 8 := by
  rcases hd with rfl | rfl | rfl
  · exact run_same1 ⟨m, hm⟩
  · exact run_same2 ⟨m, hm⟩
  · exact run_same3 ⟨m, hm⟩

def SameStep (f : FuncId) (b s : Value) (l : Value) : Prop := ∀ w, Calls Try.prog f #[b, s] w fun e w' => e = .returned l ∧ Below w.heap.size w w'
def vals8 (l : List Int) (K : Int) (v : Value) : Prop := ∃ b0 b1 b2 b3 b4 b5 b6 b7 : Int, l = [b0, b1, b2, b3, b4, b5, b6, b7] ∧ v = .agg #[.int .i64 K, .int .i64 b0, .int .i64 b1, .int .i64 b2, .int .i64 b3, .int .i64 b4, .int .i64 b5, .int .i64 b6, .int .i64 b7]
theorem vals8_of (l : List Int) (h : l.length = 8) (K : Int) : vals8 l K (btV K l) := by
  match l, h with
  | [b0, b1, b2, b3, b4, b5, b6, b7], _ => exact ⟨b0, b1, b2, b3, b4, b5, b6, b7, rfl, rfl⟩
theorem steps_do (a0 a1 a2 a3 a4 a5 a6 a7 K n t a r s d x : Int) (hn : InR n) (hs : sysE n t a r s d x = 0) (hb : beastE K [a0, a1, a2, a3, a4, a5, a6, a7] = 0) :
    ∃ b0 b1 b2 b3 b4 b5 b6 b7 : Int, SameStep 61 (.agg #[.int .i64 K, .int .i64 a0, .int .i64 a1, .int .i64 a2, .int .i64 a3, .int .i64 a4, .int .i64 a5, .int .i64 a6, .int .i64 a7]) (.agg #[.int .i64 n, .int .i64 t, .int .i64 a, .int .i64 r, .int .i64 s, .int .i64 d, .int .i64 x]) (.agg #[.int .i64 K, .int .i64 b0, .int .i64 b1, .int .i64 b2, .int .i64 b3, .int .i64 b4, .int .i64 b5, .int .i64 b6, .int .i64 b7]) ∧
      SameStep 17 (.agg #[.int .i64 K, .int .i64 a0, .int .i64 a1, .int .i64 a2, .int .i64 a3, .int .i64 a4, .int .i64 a5, .int .i64 a6, .int .i64 a7]) (.agg #[.int .i64 n, .int .i64 t, .int .i64 a, .int .i64 r, .int .i64 s, .int .i64 d, .int .i64 x]) (.agg #[.int .i64 K, .int .i64 b0, .int .i64 b1, .int .i64 b2, .int .i64 b3, .int .i64 b4, .int .i64 b5, .int .i64 b6, .int .i64 b7]) := by
  obtain ⟨hr, hs', hd, hx1, hx2⟩ := sysE_ok hs
  obtain ⟨hK, hv⟩ := beastE_ok hb
  obtain ⟨Kn, rfl, hKn⟩ := isSetB_nat hK
  obtain ⟨rn, rfl, hrn⟩ := isSetB_nat hr
  obtain ⟨sn, rfl, hsn⟩ := isSetB_nat hs'
  have key : ∃ l : List Int, l.length = 8 ∧ SameStep 61 (.agg #[.int .i64 (Kn : Int), .int .i64 a0, .int .i64 a1, .int .i64 a2, .int .i64 a3, .int .i64 a4, .int .i64 a5, .int .i64 a6, .int .i64 a7]) (.agg #[.int .i64 n, .int .i64 t, .int .i64 a, .int .i64 (rn : Int), .int .i64 (sn : Int), .int .i64 d, .int .i64 x]) (btV (Kn : Int) l) ∧
      SameStep 17 (.agg #[.int .i64 (Kn : Int), .int .i64 a0, .int .i64 a1, .int .i64 a2, .int .i64 a3, .int .i64 a4, .int .i64 a5, .int .i64 a6, .int .i64 a7]) (.agg #[.int .i64 n, .int .i64 t, .int .i64 a, .int .i64 (rn : Int), .int .i64 (sn : Int), .int .i64 d, .int .i64 x]) (btV (Kn : Int) l) := by
    cases hm : matchesB (Kn : Int) n t a with
    | false => exact ⟨_, rfl, fun w => do_no _ _ _ _ _ _ _ _ _ _ _ _ _ _ _ _ w hm, fun w => rstep_no _ _ _ _ _ _ _ _ _ _ _ _ _ _ _ _ w hn hm⟩
    | true =>
      have hsame := steps_same d hd (Kn &&& sn) (and_lt256 Kn sn hKn)
      refine ⟨(pRun d (natKinds (Kn &&& sn) 8) (natKinds (Kn &&& sn) 8).length).map (srcV [a0, a1, a2, a3, a4, a5, a6, a7] x (sumL [a0, a1, a2, a3, a4, a5, a6, a7] x (natKinds (Kn &&& rn) 8))), by rw [List.length_map, pRun_len], ?_, ?_⟩
      · rcases hd with rfl | rfl | rfl
        · exact fun w => do_yes1 Kn rn sn hKn hrn hsn _ _ _ _ _ _ _ _ _ _ _ _ ⟨hx1, hx2⟩ hv w hm
        · exact fun w => do_yes2 Kn rn sn hKn hrn hsn _ _ _ _ _ _ _ _ _ _ _ _ ⟨hx1, hx2⟩ hv w hm
        · exact fun w => do_yes3 Kn rn sn hKn hrn hsn _ _ _ _ _ _ _ _ _ _ _ _ ⟨hx1, hx2⟩ hv w hm
      · rw [hsame]
        rcases hd with rfl | rfl | rfl
        · exact fun w => rstep_yes1 Kn rn sn hKn hrn hsn _ _ _ _ _ _ _ _ _ _ _ _ hn ⟨hx1, hx2⟩ hv w hm
        · exact fun w => rstep_yes2 Kn rn sn hKn hrn hsn _ _ _ _ _ _ _ _ _ _ _ _ hn ⟨hx1, hx2⟩ hv w hm
        · exact fun w => rstep_yes3 Kn rn sn hKn hrn hsn _ _ _ _ _ _ _ _ _ _ _ _ hn ⟨hx1, hx2⟩ hv w hm
  obtain ⟨l, hl, h1, h2⟩ := key
  obtain ⟨b0, b1, b2, b3, b4, b5, b6, b7, rfl, hv8⟩ := vals8_of l hl Kn
  rw [hv8] at h1 h2
  exact ⟨b0, b1, b2, b3, b4, b5, b6, b7, h1, h2⟩

set_option maxRecDepth 20000 in
set_option maxHeartbeats 4000000 in
theorem systemSteps_sys (K a0 a1 a2 a3 a4 a5 a6 a7 n t a r s d x : Int) (w : World) (h : sysE n t a r s d x ≠ 0) :
    Calls Try.prog 3 #[.agg #[.int .i64 K, .int .i64 a0, .int .i64 a1, .int .i64 a2, .int .i64 a3, .int .i64 a4, .int .i64 a5, .int .i64 a6, .int .i64 a7], .agg #[.int .i64 n, .int .i64 t, .int .i64 a, .int .i64 r, .int .i64 s, .int .i64 d, .int .i64 x]] w fun e w' => e = .returned (.bool true) ∧ Below w.heap.size w w' := by
  have h1 := fun w => step_sys K a0 a1 a2 a3 a4 a5 a6 a7 n t a r s d x w h
  have h2 := fun w => sysRef_any n t a r s d x w
  have h4 := fun w => sysCheck_any 0 0 0 0 0 0 0 w
  have hz : sysE 0 0 0 0 0 0 0 = 1 := by decide
  rw [hz] at h4
  simp only [stepB] at h1
  have hcmp : ∀ w, (binOp .eql 24 (.agg #[.int .i64 0, .int .i64 0, .int .i64 0, .int .i64 0, .int .i64 0, .int .i64 0, .int .i64 0, .int .i64 0, .int .i64 0]) (.agg #[.int .i64 0, .int .i64 0, .int .i64 0, .int .i64 0, .int .i64 0, .int .i64 0, .int .i64 0, .int .i64 0, .int .i64 0])).run Try.prog w = .ok (.bool true) w := fun w => by
    have := eqlBeast w [0, 0, 0, 0, 0, 0, 0, 0, 0] [0, 0, 0, 0, 0, 0, 0, 0, 0] rfl rfl
    rw [eqB_self] at this
    exact this
  generalize sysE n t a r s d x = q at *
  have hq : (q != 0) = true := by simpa using h
  have hq0 : (q == 0) = false := by simpa using h
  clear h hz
  have H1 := Lib.hid h1; have H2 := Lib.hid h2; have H4 := Lib.hid h4
  clear h1 h2 h4
  go_enter Try.func3, Try.ntmps3
  go_wp2_with fail
  refine (H1.out _).mono ?_
  rintro e w1 ⟨rfl, hb1⟩
  have k2 := (Mod.ofBelow hb1).keep (blk_alloc (heap_alloc_new w _) _) (by simp)
  have k3 := (Mod.ofBelow hb1).keep (heap_alloc_new (w.alloc _) _) (by simp)
  have hz1 := hb1.size
  have hB := (((Below.refl w.heap.size w).alloc (Nat.le_refl _) _).alloc (by simp) _).trans (hb1.mono (by simp; omega))
  simp only [World.size_alloc] at k3 hz1
  have HB := Lib.hid hB; have K2 := Lib.hid k2; have K3 := Lib.hid k3
  have s0 := blk_cell k3 0
  have s1 := blk_cell k3 1
  have s2 := blk_cell k3 2
  have s3 := blk_cell k3 3
  have s4 := blk_cell k3 4
  have s5 := blk_cell k3 5
  have s6 := blk_cell k3 6
  simp only [List.getElem?_toArray, List.getElem?_cons_zero, List.getElem?_cons_succ] at s0 s1 s2 s3 s4 s5 s6
  have ls := blk_lt k3
  clear k2 k3 hb1 H1 hB
  go_wp2_with fail
  refine (H2.out _).mono ?_
  rintro e w2 ⟨rfl, hb2⟩
  have k2 := (Mod.ofBelow hb2).keep (blk_alloc K2.out _) (by simp)
  have k3 := (Mod.ofBelow hb2).keep (blk_alloc K3.out _) (by simp)
  have k5 := (Mod.ofBelow hb2).keep (heap_alloc_new w1 _) (by simp)
  have hz2 := hb2.size
  have hB := ((HB.out.alloc HB.out.size _).trans (hb2.mono (by simp; omega)))
  simp only [World.size_alloc] at hz2
  have HB2 := Lib.hid hB; have K22 := Lib.hid k2; have K23 := Lib.hid k3; have K25 := Lib.hid k5
  clear s0 s1 s2 s3 s4 s5 s6 ls hb2 H2 hB HB K2 K3
  have z0 := blk_cell k5 0
  have z1 := blk_cell k5 1
  have z2 := blk_cell k5 2
  have z3 := blk_cell k5 3
  have z4 := blk_cell k5 4
  have z5 := blk_cell k5 5
  have z6 := blk_cell k5 6
  have z7 := blk_cell k5 7
  have z8 := blk_cell k5 8
  simp only [List.getElem?_toArray, List.getElem?_cons_zero, List.getElem?_cons_succ] at z0 z1 z2 z3 z4 z5 z6 z7 z8
  have lz := blk_lt k5
  clear k2 k3 k5
  go_wp2_with fail
  refine (H4.out _).mono ?_
  rintro e w4 ⟨rfl, hb4⟩
  have hB := HB2.out.trans (hb4.mono HB2.out.size)
  have HB4 := Lib.hid hB
  clear hb4 hB
  go_wp2
  go_ret
  exact ⟨rfl, HB4.out⟩

set_option maxRecDepth 20000 in
set_option maxHeartbeats 4000000 in
theorem systemSteps_beast (K a0 a1 a2 a3 a4 a5 a6 a7 n t a r s d x : Int) (w : World) (h : sysE n t a r s d x = 0) (h' : beastE K [a0, a1, a2, a3, a4, a5, a6, a7] ≠ 0) :
    Calls Try.prog 3 #[.agg #[.int .i64 K, .int .i64 a0, .int .i64 a1, .int .i64 a2, .int .i64 a3, .int .i64 a4, .int .i64 a5, .int .i64 a6, .int .i64 a7], .agg #[.int .i64 n, .int .i64 t, .int .i64 a, .int .i64 r, .int .i64 s, .int .i64 d, .int .i64 x]] w fun e w' => e = .returned (.bool true) ∧ Below w.heap.size w w' := by
  have h1 := fun w => step_beast K a0 a1 a2 a3 a4 a5 a6 a7 n t a r s d x w h h'
  have h2 := fun w => sysRef_any n t a r s d x w
  have h4 := fun w => sysCheck_any 0 0 0 0 0 0 0 w
  have hz : sysE 0 0 0 0 0 0 0 = 1 := by decide
  rw [hz] at h4
  simp only [stepB] at h1
  have hcmp : ∀ w, (binOp .eql 24 (.agg #[.int .i64 0, .int .i64 0, .int .i64 0, .int .i64 0, .int .i64 0, .int .i64 0, .int .i64 0, .int .i64 0, .int .i64 0]) (.agg #[.int .i64 0, .int .i64 0, .int .i64 0, .int .i64 0, .int .i64 0, .int .i64 0, .int .i64 0, .int .i64 0, .int .i64 0])).run Try.prog w = .ok (.bool true) w := fun w => by
    have := eqlBeast w [0, 0, 0, 0, 0, 0, 0, 0, 0] [0, 0, 0, 0, 0, 0, 0, 0, 0] rfl rfl
    rw [eqB_self] at this
    exact this
  have h3 := fun w => beastCheck_any K a0 a1 a2 a3 a4 a5 a6 a7 w
  rw [h] at h2
  generalize beastE K [a0, a1, a2, a3, a4, a5, a6, a7] = q at *
  have hq : (q != 0) = true := by simpa using h'
  clear h h' hz
  have H1 := Lib.hid h1; have H2 := Lib.hid h2; have H4 := Lib.hid h4; have H3 := Lib.hid h3
  clear h1 h2 h4 h3
  go_enter Try.func3, Try.ntmps3
  go_wp2_with fail
  refine (H1.out _).mono ?_
  rintro e w1 ⟨rfl, hb1⟩
  have k2 := (Mod.ofBelow hb1).keep (blk_alloc (heap_alloc_new w _) _) (by simp)
  have k3 := (Mod.ofBelow hb1).keep (heap_alloc_new (w.alloc _) _) (by simp)
  have hz1 := hb1.size
  have hB := (((Below.refl w.heap.size w).alloc (Nat.le_refl _) _).alloc (by simp) _).trans (hb1.mono (by simp; omega))
  simp only [World.size_alloc] at k3 hz1
  have HB := Lib.hid hB; have K2 := Lib.hid k2; have K3 := Lib.hid k3
  have s0 := blk_cell k3 0
  have s1 := blk_cell k3 1
  have s2 := blk_cell k3 2
  have s3 := blk_cell k3 3
  have s4 := blk_cell k3 4
  have s5 := blk_cell k3 5
  have s6 := blk_cell k3 6
  simp only [List.getElem?_toArray, List.getElem?_cons_zero, List.getElem?_cons_succ] at s0 s1 s2 s3 s4 s5 s6
  have ls := blk_lt k3
  clear k2 k3 hb1 H1 hB
  go_wp2_with fail
  refine (H2.out _).mono ?_
  rintro e w2 ⟨rfl, hb2⟩
  have k2 := (Mod.ofBelow hb2).keep (blk_alloc K2.out _) (by simp)
  have k3 := (Mod.ofBelow hb2).keep (blk_alloc K3.out _) (by simp)
  have k5 := (Mod.ofBelow hb2).keep (heap_alloc_new w1 _) (by simp)
  have hz2 := hb2.size
  have hB := ((HB.out.alloc HB.out.size _).trans (hb2.mono (by simp; omega)))
  simp only [World.size_alloc] at hz2
  have HB2 := Lib.hid hB; have K22 := Lib.hid k2; have K23 := Lib.hid k3; have K25 := Lib.hid k5
  clear s0 s1 s2 s3 s4 s5 s6 ls hb2 H2 hB HB K2 K3
  have c0 := blk_cell k2 0
  have c1 := blk_cell k2 1
  have c2 := blk_cell k2 2
  have c3 := blk_cell k2 3
  have c4 := blk_cell k2 4
  have c5 := blk_cell k2 5
  have c6 := blk_cell k2 6
  have c7 := blk_cell k2 7
  have c8 := blk_cell k2 8
  simp only [List.getElem?_toArray, List.getElem?_cons_zero, List.getElem?_cons_succ] at c0 c1 c2 c3 c4 c5 c6 c7 c8
  have lc := blk_lt k2
  clear k2 k3 k5
  go_wp2_with fail
  refine (H3.out _).mono ?_
  rintro e w3 ⟨rfl, hb3⟩
  have k2 := (Mod.ofBelow hb3).keep K22.out (by simp)
  have k3 := (Mod.ofBelow hb3).keep K23.out (by simp)
  have k5 := (Mod.ofBelow hb3).keep K25.out (by simp)
  have hz3 := hb3.size
  have hB := HB2.out.trans (hb3.mono (by omega))
  have HB3 := Lib.hid hB; have K32 := Lib.hid k2; have K33 := Lib.hid k3; have K35 := Lib.hid k5
  clear c0 c1 c2 c3 c4 c5 c6 c7 c8 lc hb3 H3 hB HB2 K22 K23 K25
  have z0 := blk_cell k5 0
  have z1 := blk_cell k5 1
  have z2 := blk_cell k5 2
  have z3 := blk_cell k5 3
  have z4 := blk_cell k5 4
  have z5 := blk_cell k5 5
  have z6 := blk_cell k5 6
  have z7 := blk_cell k5 7
  have z8 := blk_cell k5 8
  simp only [List.getElem?_toArray, List.getElem?_cons_zero, List.getElem?_cons_succ] at z0 z1 z2 z3 z4 z5 z6 z7 z8
  have lz := blk_lt k5
  clear k2 k3 k5
  go_wp2_with fail
  refine (H4.out _).mono ?_
  rintro e w4 ⟨rfl, hb4⟩
  have hB := HB3.out.trans (hb4.mono HB3.out.size)
  have HB4 := Lib.hid hB
  clear hb4 hB
  go_wp2
  go_ret
  exact ⟨rfl, HB4.out⟩

set_option maxRecDepth 20000 in
set_option maxHeartbeats 4000000 in
theorem systemSteps_ok (K a0 a1 a2 a3 a4 a5 a6 a7 n t a r s d x : Int) (w : World) (hn : InR n) (h : sysE n t a r s d x = 0) (h' : beastE K [a0, a1, a2, a3, a4, a5, a6, a7] = 0) :
    Calls Try.prog 3 #[.agg #[.int .i64 K, .int .i64 a0, .int .i64 a1, .int .i64 a2, .int .i64 a3, .int .i64 a4, .int .i64 a5, .int .i64 a6, .int .i64 a7], .agg #[.int .i64 n, .int .i64 t, .int .i64 a, .int .i64 r, .int .i64 s, .int .i64 d, .int .i64 x]] w fun e w' => e = .returned (.bool true) ∧ Below w.heap.size w w' := by
  obtain ⟨b0, b1, b2, b3, b4, b5, b6, b7, hd1, hd2⟩ := steps_do a0 a1 a2 a3 a4 a5 a6 a7 K n t a r s d x hn h h'
  have h5 := fun w => hd2 w
  have h1 := fun w => step_ok K a0 a1 a2 a3 a4 a5 a6 a7 n t a r s d x b0 b1 b2 b3 b4 b5 b6 b7 w h h' hd1
  have h2 := fun w => sysRef_any n t a r s d x w
  have h4 := fun w => sysCheck_any 0 0 0 0 0 0 0 w
  have hz : sysE 0 0 0 0 0 0 0 = 1 := by decide
  rw [hz] at h4
  simp only [stepB] at h1
  have hcmp : ∀ w, (binOp .eql 24 (.agg #[.int .i64 K, .int .i64 b0, .int .i64 b1, .int .i64 b2, .int .i64 b3, .int .i64 b4, .int .i64 b5, .int .i64 b6, .int .i64 b7]) (.agg #[.int .i64 K, .int .i64 b0, .int .i64 b1, .int .i64 b2, .int .i64 b3, .int .i64 b4, .int .i64 b5, .int .i64 b6, .int .i64 b7])).run Try.prog w = .ok (.bool true) w := fun w => by
    have := eqlBeast w [K, b0, b1, b2, b3, b4, b5, b6, b7] [K, b0, b1, b2, b3, b4, b5, b6, b7] rfl rfl
    rw [eqB_self] at this
    exact this
  have h3 := fun w => beastCheck_any K a0 a1 a2 a3 a4 a5 a6 a7 w
  rw [h] at h2
  rw [h'] at h3
  clear h h' hz hd1 hd2 hn
  have H1 := Lib.hid h1; have H2 := Lib.hid h2; have H4 := Lib.hid h4; have H3 := Lib.hid h3; have H5 := Lib.hid h5
  clear h1 h2 h4 h3 h5
  go_enter Try.func3, Try.ntmps3
  go_wp2_with fail
  refine (H1.out _).mono ?_
  rintro e w1 ⟨rfl, hb1⟩
  have k2 := (Mod.ofBelow hb1).keep (blk_alloc (heap_alloc_new w _) _) (by simp)
  have k3 := (Mod.ofBelow hb1).keep (heap_alloc_new (w.alloc _) _) (by simp)
  have hz1 := hb1.size
  have hB := (((Below.refl w.heap.size w).alloc (Nat.le_refl _) _).alloc (by simp) _).trans (hb1.mono (by simp; omega))
  simp only [World.size_alloc] at k3 hz1
  have HB := Lib.hid hB; have K2 := Lib.hid k2; have K3 := Lib.hid k3
  have s0 := blk_cell k3 0
  have s1 := blk_cell k3 1
  have s2 := blk_cell k3 2
  have s3 := blk_cell k3 3
  have s4 := blk_cell k3 4
  have s5 := blk_cell k3 5
  have s6 := blk_cell k3 6
  simp only [List.getElem?_toArray, List.getElem?_cons_zero, List.getElem?_cons_succ] at s0 s1 s2 s3 s4 s5 s6
  have ls := blk_lt k3
  clear k2 k3 hb1 H1 hB
  go_wp2_with fail
  refine (H2.out _).mono ?_
  rintro e w2 ⟨rfl, hb2⟩
  have k2 := (Mod.ofBelow hb2).keep (blk_alloc K2.out _) (by simp)
  have k3 := (Mod.ofBelow hb2).keep (blk_alloc K3.out _) (by simp)
  have k5 := (Mod.ofBelow hb2).keep (heap_alloc_new w1 _) (by simp)
  have hz2 := hb2.size
  have hB := ((HB.out.alloc HB.out.size _).trans (hb2.mono (by simp; omega)))
  simp only [World.size_alloc] at hz2
  have HB2 := Lib.hid hB; have K22 := Lib.hid k2; have K23 := Lib.hid k3; have K25 := Lib.hid k5
  clear s0 s1 s2 s3 s4 s5 s6 ls hb2 H2 hB HB K2 K3
  have c0 := blk_cell k2 0
  have c1 := blk_cell k2 1
  have c2 := blk_cell k2 2
  have c3 := blk_cell k2 3
  have c4 := blk_cell k2 4
  have c5 := blk_cell k2 5
  have c6 := blk_cell k2 6
  have c7 := blk_cell k2 7
  have c8 := blk_cell k2 8
  simp only [List.getElem?_toArray, List.getElem?_cons_zero, List.getElem?_cons_succ] at c0 c1 c2 c3 c4 c5 c6 c7 c8
  have lc := blk_lt k2
  clear k2 k3 k5
  go_wp2_with fail
  refine (H3.out _).mono ?_
  rintro e w3 ⟨rfl, hb3⟩
  have k2 := (Mod.ofBelow hb3).keep K22.out (by simp)
  have k3 := (Mod.ofBelow hb3).keep K23.out (by simp)
  have k5 := (Mod.ofBelow hb3).keep K25.out (by simp)
  have hz3 := hb3.size
  have hB := HB2.out.trans (hb3.mono (by omega))
  have HB3 := Lib.hid hB; have K32 := Lib.hid k2; have K33 := Lib.hid k3; have K35 := Lib.hid k5
  clear c0 c1 c2 c3 c4 c5 c6 c7 c8 lc hb3 H3 hB HB2 K22 K23 K25
  have z0 := blk_cell k5 0
  have z1 := blk_cell k5 1
  have z2 := blk_cell k5 2
  have z3 := blk_cell k5 3
  have z4 := blk_cell k5 4
  have z5 := blk_cell k5 5
  have z6 := blk_cell k5 6
  have z7 := blk_cell k5 7
  have z8 := blk_cell k5 8
  simp only [List.getElem?_toArray, List.getElem?_cons_zero, List.getElem?_cons_succ] at z0 z1 z2 z3 z4 z5 z6 z7 z8
  have lz := blk_lt k5
  clear k2 k3 k5
  go_wp2
  refine wp_planM [some 39, some 40, some 41, some 42, some 43, some 44, some 45, some 46, some 47, some 48, some 4] [[], [], [], [1, 2], [0, 1, 2, 3], [0, 1, 2, 3, 4], [0, 1, 2, 3, 4, 5], [0, 1, 2, 3, 4, 5, 6], [0, 1, 2, 3, 4, 5, 6, 7], [0, 1, 2, 3, 4, 5, 6, 7, 8], [0, 1, 2, 3, 4, 5, 6, 7, 8, 9]] [.agg #[.int .i64 K, .int .i64 b0, .int .i64 b1, .int .i64 b2, .int .i64 b3, .int .i64 b4, .int .i64 b5, .int .i64 b6, .int .i64 b7], .agg #[.int .i64 K, .int .i64 a0, .int .i64 a1, .int .i64 a2, .int .i64 a3, .int .i64 a4, .int .i64 a5, .int .i64 a6, .int .i64 a7], .agg #[.int .i64 n, .int .i64 t, .int .i64 a, .int .i64 r, .int .i64 s, .int .i64 d, .int .i64 x], .agg #[.int .i64 K, .int .i64 b0, .int .i64 b1, .int .i64 b2, .int .i64 b3, .int .i64 b4, .int .i64 b5, .int .i64 b6, .int .i64 b7], .bool true, .bool true, .agg #[.int .i64 0, .int .i64 0, .int .i64 0, .int .i64 0, .int .i64 0, .int .i64 0, .int .i64 0], .int .i64 1, .bool true, .bool true, .bool true]
    (fun w' => Below w3.heap.size w3 w') mixed rfl (by kernel_rfl) (Below.refl _ _).drew ?_ ?_
  · simp only [AllFrom.cons_eq, AllFrom.nil_eq, OpGoalM]
    refine ⟨?_, ?_, ?_, ?_, ?_, ?_, ?_, ?_, ?_, ?_, ?_, trivial⟩
    all_goals
      intro w4 hI
      have k2 := (Mod.ofBelow hI).keep K32.out (by simp)
      have k3 := (Mod.ofBelow hI).keep K33.out (by simp)
      have k5 := (Mod.ofBelow hI).keep K35.out (by simp)
      have hsz := hI.size
      clear z0 z1 z2 z3 z4 z5 z6 z7 z8 lz
      have c0 := blk_cell k2 0
      have c1 := blk_cell k2 1
      have c2 := blk_cell k2 2
      have c3 := blk_cell k2 3
      have c4 := blk_cell k2 4
      have c5 := blk_cell k2 5
      have c6 := blk_cell k2 6
      have c7 := blk_cell k2 7
      have c8 := blk_cell k2 8
      simp only [List.getElem?_toArray, List.getElem?_cons_zero, List.getElem?_cons_succ] at c0 c1 c2 c3 c4 c5 c6 c7 c8
      have lc := blk_lt k2
      have s0 := blk_cell k3 0
      have s1 := blk_cell k3 1
      have s2 := blk_cell k3 2
      have s3 := blk_cell k3 3
      have s4 := blk_cell k3 4
      have s5 := blk_cell k3 5
      have s6 := blk_cell k3 6
      simp only [List.getElem?_toArray, List.getElem?_cons_zero, List.getElem?_cons_succ] at s0 s1 s2 s3 s4 s5 s6
      have ls := blk_lt k3
      have z0 := blk_cell k5 0
      have z1 := blk_cell k5 1
      have z2 := blk_cell k5 2
      have z3 := blk_cell k5 3
      have z4 := blk_cell k5 4
      have z5 := blk_cell k5 5
      have z6 := blk_cell k5 6
      have z7 := blk_cell k5 7
      have z8 := blk_cell k5 8
      simp only [List.getElem?_toArray, List.getElem?_cons_zero, List.getElem?_cons_succ] at z0 z1 z2 z3 z4 z5 z6 z7 z8
      have lz := blk_lt k5
      clear k2 k3 k5
      go_simp
    · refine (H5.out _).mono ?_
      rintro e w' ⟨rfl, hb⟩
      exact ⟨rfl, hI.trans (hb.mono hsz)⟩
    · refine (H4.out _).mono ?_
      rintro e w' ⟨rfl, hb⟩
      exact ⟨rfl, hI.trans (hb.mono hsz)⟩
  · intro w4 hI
    go_simp
    go_wp2
    go_ret
    exact ⟨rfl, HB3.out.trans (hI.mono HB3.out.size)⟩

theorem systemSteps_any (K a0 a1 a2 a3 a4 a5 a6 a7 n t a r s d x : Int) (hn : InR n) (w : World) :
    Calls Try.prog 3 #[.agg #[.int .i64 K, .int .i64 a0, .int .i64 a1, .int .i64 a2, .int .i64 a3, .int .i64 a4, .int .i64 a5, .int .i64 a6, .int .i64 a7], .agg #[.int .i64 n, .int .i64 t, .int .i64 a, .int .i64 r, .int .i64 s, .int .i64 d, .int .i64 x]] w fun e w' => e = .returned (.bool true) ∧ Below w.heap.size w w' := by
  by_cases h : sysE n t a r s d x = 0
  · by_cases h' : beastE K [a0, a1, a2, a3, a4, a5, a6, a7] = 0
    · exact systemSteps_ok K a0 a1 a2 a3 a4 a5 a6 a7 n t a r s d x w hn h h'
    · exact systemSteps_beast K a0 a1 a2 a3 a4 a5 a6 a7 n t a r s d x w h h'
  · exact systemSteps_sys K a0 a1 a2 a3 a4 a5 a6 a7 n t a r s d x w h

set_option maxRecDepth 100000 in
theorem systemSteps_law {H : Type} {enc : TypeId × Value → H} (W : World) (base : Nat) (args : Array Value) (ds : List (DataW H)) (ps : List MemPlace)
    (hval : ∀ (j : Nat) t v, Try.f3.params[j]? = some t → args[j]? = some v → Value.okWide Try.prog W .any base t v)
    (hA : DataW.TrodAll enc Try.prog W 0 (fun _ => true) true Try.f3.params.toList args.toList ds ps) (_ : ∀ p ∈ ps, p.block < W.heap.size) :
    Calls Try.prog 3 args W fun e W' => e = .returned (.bool true) ∧ Below W.heap.size W W' := by
  rw [Try.params3] at hA hval
  obtain ⟨v0, v1, d0, d1, p0, p1, rfl, rfl, rfl, h0, h1⟩ := trodAll_two hA
  obtain ⟨cs, rfl, -⟩ := okWide_struct Try.underlying24 (hval 0 24 v0 rfl rfl)
  obtain ⟨cs', rfl, -⟩ := okWide_struct Try.underlying28 (hval 1 28 v1 rfl rfl)
  obtain ⟨zs, rfl, hl, -⟩ := open_flat intCells_Beast h0
  have hl : zs.length = 9 := hl.trans (by kernel_rfl)
  obtain ⟨zs', rfl, hl', hr'⟩ := open_flat intCells_System h1
  have hl' : zs'.length = 7 := hl'.trans (by kernel_rfl)
  match zs, hl, zs', hl', hr' with
  | [K, a0, a1, a2, a3, a4, a5, a6, a7], _, [n, t, a, r, s, d, x], _, hr' => exact systemSteps_any K a0 a1 a2 a3 a4 a5 a6 a7 n t a r s d x (hr' n (by simp)) W

set_option maxRecDepth 100000 in
theorem systemSteps_lifted (os : Os) (started : os.Started) (H : Type) (enc : TypeId × Value → H) :
    ReturnsInHanded {} Try.checked os 3 .any (Rows.systemStepsSpec.pre6 enc Try.prog Try.f3 Rows.systemStepsRow.domain false) (Rows.systemStepsSpec.post enc Try.prog Try.f3 false true false false) := by
  refine law_lifted (C := Try.checked) (tb := 4) started own_ laid_ (by kernel_rfl) Try.func3 ?_ rfl rfl (by kernel_rfl) (fun ds h => ?_)
    (ChangeSpec.witness6 (enc := enc) (C := Try.checked) false ⟨#[], #[.agg #[.int .i64 0, .int .i64 0, .int .i64 0, .int .i64 0, .int .i64 0, .int .i64 0, .int .i64 0, .int .i64 0, .int .i64 0], .agg #[.int .i64 0, .int .i64 0, .int .i64 0, .int .i64 0, .int .i64 0, .int .i64 0, .int .i64 0]], []⟩ 8 (by kernel_rfl) (by kernel_rfl) (by kernel_rfl) (by kernel_rfl)) ?_
  · intro t ht
    have : t = 24 ∨ t = 28 := by simpa [Try.params3] using ht
    rcases this with rfl | rfl
    all_goals exact ⟨by kernel_rfl, of_decide_eq_true (by kernel_rfl)⟩
  · match ds, h with
    | [d0, d1], _ => rfl
  · intro W base args ds ps hval hA hlt
    exact systemSteps_law W base args ds ps hval hA hlt

set_option maxHeartbeats 4000000 in
theorem systemSteps_closed : joinedFacts Try.prog 3 Try.f3 Rows.systemStepsSpec Rows.systemStepsRow = true := by
  unfold joinedFacts
  repeat' (with_reducible refine and_intro ?_ ?_)
  · as_aux_lemma => kernel_rfl
  · exact laid_
  · exact mapsRowed_
  · as_aux_lemma => kernel_rfl
  · as_aux_lemma => kernel_rfl
  · as_aux_lemma => kernel_rfl
  · exact stops_
  · as_aux_lemma => kernel_rfl
  · exact stopKnobs_
  · as_aux_lemma => kernel_rfl
  · as_aux_lemma => kernel_rfl
  · as_aux_lemma => kernel_rfl
  · as_aux_lemma => kernel_rfl
  · as_aux_lemma => kernel_rfl
  · as_aux_lemma => kernel_rfl
  · as_aux_lemma => kernel_rfl
  · as_aux_lemma => kernel_rfl
  · as_aux_lemma => kernel_rfl
  · as_aux_lemma => kernel_rfl
  · as_aux_lemma => kernel_rfl
  · as_aux_lemma => kernel_rfl
  · as_aux_lemma => kernel_rfl
  · exact plainKeys_
  · as_aux_lemma => kernel_rfl
  · exact stopsHeard_
  · exact mayEnter_
  · exact liftsFinal_
  · exact make_
  · as_aux_lemma => kernel_rfl
  · as_aux_lemma => kernel_rfl
  · as_aux_lemma => kernel_rfl
  · as_aux_lemma => kernel_rfl

theorem systemSteps_holds : Rows.SystemStepsSaid :=
  OpenClaim.holds_of_wide 3 Try.f3 rfl rfl rfl rfl rfl rfl rfl ⟨rfl, rfl, rfl, rfl, rfl⟩ rfl rfl rfl rfl rfl (by as_aux_lemma => kernel_rfl) Try.func3 systemSteps_closed
    (of_decide_eq_true (by as_aux_lemma => kernel_rfl)) (by unfold Func.isWrapper; first | (rw [if_pos (by decide +kernel)]; kernel_rfl) | (rw [if_neg (by decide +kernel)]; exact ⟨rfl, rfl⟩))
    (fun os started H enc _ => systemSteps_lifted os started H enc)
#print axioms systemSteps_holds
end Go.Proofs.Ytkcpmoinpdojjaa
