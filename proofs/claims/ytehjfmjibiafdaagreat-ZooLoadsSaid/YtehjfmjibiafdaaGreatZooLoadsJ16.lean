import Derived.Test.YtehjfmjibiafdaaGreatZooLoadsJ15
import Derived.Test.YtehjfmjibiafdaaGreatZooLoadsJ8
import Derived.Test.YtehjfmjibiafdaaGreatZooLoadsJ13
/- Worlds: lay a beast into its table. -/
namespace Go.Proofs.YtehjfmjibiafdaaGreat
open Go Go.RowKit

/-- What a call leaves of a world. -/
def WPost (p ps mt mp : Nat) (sl : Sl) (tb : List (Nat × Nat)) (rw : Nat → List Rw) (pl : List Pl) (F : List Nat) (w : World) (r : Value) (e : Ending) (w' : World) : Prop :=
  e = .returned r ∧ ∃ FS Fs c, WorldAt w' p ps mt mp sl tb rw pl FS Fs c ∧ Turns w F (wF p mt mp tb FS Fs) w'

attribute [local go_sem] AllFrom.cons_eq AllFrom.nil_eq putF_nil putF_cons wantedL_none wantedL_some OpGoalT OpGoalV OpGoalQ YieldsR preF_nil preF_cons

theorem zeroTab (w : World) : (zeroValue 113).run Tryz.prog w = .ok (.pointer none) w := by kernel_rfl
theorem updL_twice {α : Type} (f : Nat → α) (k : Nat) (x y : α) : updL (updL f k x) k y = updL f k y := by funext j; unfold updL; split <;> rfl
theorem below_drew {w : World} : Below w.heap.size w w.drew := (Below.refl _ _).drew
section
variable {w : World} {p ps mt mp : Nat} {sl : Sl} {tb : List (Nat × Nat)} {rw : Nat → List Rw} {pl : List Pl} {FS : List Nat} {Fs : Nat → List Nat} {c : Nat → Nat}

set_option maxRecDepth 20000 in
set_option maxHeartbeats 4000000 in
theorem lay_old (h : WorldAt w p ps mt mp sl tb rw pl FS Fs c) (s : Nat) (g : Int) (kn b : Nat) (a0 a1 a2 a3 a4 a5 a6 a7 : Int) (hk : (kn, b) ∈ tb) (hkn : kn < 256) (hbe : beastE (kn : Int) [a0, a1, a2, a3, a4, a5, a6, a7] = 0)
    (hs : s < 256) (hn : ∀ x ∈ pl, x.1 ≠ s) (hl : (rw kn).length < 1200000000000) :
    Calls Tryz.prog 80 #[.pointer (some ⟨p, 0, none⟩), .agg #[.int .i64 (s : Int), .int .i64 g], .agg #[.int .i64 (kn : Int), .int .i64 a0, .int .i64 a1, .int .i64 a2, .int .i64 a3, .int .i64 a4, .int .i64 a5, .int .i64 a6, .int .i64 a7]] w
      (WPost p ps mt mp sl tb (updL rw kn (rw kn ++ [(((s : Int), g), (kn : Int), a0, a1, a2, a3, a4, a5, a6, a7)])) (pl ++ [(s, kn, (rw kn).length)]) (wF p mt mp tb FS Fs) w (.tuple #[])) := by
  obtain ⟨w0, hw0⟩ : ∃ w0, (w.alloc (.cells #[.int .i64 (s : Int), .int .i64 g] 41)).alloc (.cells #[.int .i64 (kn : Int), .int .i64 a0, .int .i64 a1, .int .i64 a2, .int .i64 a3, .int .i64 a4, .int .i64 a5, .int .i64 a6, .int .i64 a7] 50) = w0 := ⟨_, rfl⟩
  have hb0 : Below w.heap.size w w0 := by rw [← hw0]; exact ((Below.refl _ _).alloc (Nat.le_refl _) _).alloc (by simp) _
  have hz0 : w0.heap[w.heap.size]? = some (.cells #[.int .i64 (s : Int), .int .i64 g] 41 (0, 0)) := by rw [← hw0]; exact blk_alloc (heap_alloc_new w _) _
  have hz1 : w0.heap[w.heap.size + 1]? = some (.cells #[.int .i64 (kn : Int), .int .i64 a0, .int .i64 a1, .int .i64 a2, .int .i64 a3, .int .i64 a4, .int .i64 a5, .int .i64 a6, .int .i64 a7] 50 (0, 0)) := by
    rw [← hw0]; have := heap_alloc_new (w.alloc (.cells #[.int .i64 (s : Int), .int .i64 g] 41)) (.cells #[.int .i64 (kn : Int), .int .i64 a0, .int .i64 a1, .int .i64 a2, .int .i64 a3, .int .i64 a4, .int .i64 a5, .int .i64 a6, .int .i64 a7] 50); simpa using this
  have h0 := h.below hb0
  have h0d := h0.below below_drew
  have hlk := mi_in colPr_keys Tryz.underlying93 h0d.tm hkn hk true
  simp only [colPr, if_true] at hlk
  have e0 := blk_cell h0.blk 1
  simp only [List.getElem?_toArray, List.getElem?_cons_zero, List.getElem?_cons_succ] at e0
  have hpl := blk_lt h0.blk
  have q0 := blk_cell hz0 0
  have q1 := blk_cell hz0 1
  simp only [List.getElem?_toArray, List.getElem?_cons_zero, List.getElem?_cons_succ] at q0 q1
  have ql := blk_lt hz0
  have r0 := blk_cell hz1 0
  have r1 := blk_cell hz1 1
  have r2 := blk_cell hz1 2
  have r3 := blk_cell hz1 3
  have r4 := blk_cell hz1 4
  have r5 := blk_cell hz1 5
  have r6 := blk_cell hz1 6
  have r7 := blk_cell hz1 7
  have r8 := blk_cell hz1 8
  simp only [List.getElem?_toArray, List.getElem?_cons_zero, List.getElem?_cons_succ] at r0 r1 r2 r3 r4 r5 r6 r7 r8
  have rl := blk_lt hz1
  have H1 := Lib.hid (rt_add (h0d.tab _ hk) hkn (s : Int) g a0 a1 a2 a3 a4 a5 a6 a7 hbe hl)
  have hltw := h.lt
  have H := Lib.hid h; have Hb0 := Lib.hid hb0; have Hz0 := Lib.hid hz0; have Hz1 := Lib.hid hz1; have H0 := Lib.hid h0; have H0d := Lib.hid h0d; have Hltw := Lib.hid hltw; have Hk := Lib.hid hk; have Hn := Lib.hid hn; have Hs := Lib.hid hs
  clear h hb0 hz0 hz1 h0 h0d hltw hk hn hs
  clear hbe hl
  go_enter Tryz.func80, Tryz.ntmps80
  go_wp2_with fail
  clear hw0
  refine wp_planR 12 [0] [some 11, some 12, some 13, some 14, some 15, some 16, some 17, some 10, some 18, some 19, some 6, some 7] [[], [0], [0, 1], [0, 1, 2], [], [4], [0, 1, 2, 3, 4, 5], [0, 1, 2, 3, 4, 5, 6], [0, 1, 2, 3, 4, 5, 6, 7], [0, 1, 2, 3, 4, 5, 6, 7], [0, 1, 2, 3, 4, 5, 6, 7, 8], [0, 1, 2, 3, 4, 5, 6, 7, 8, 9, 10]] [0, 1, 2, 3, 4, 5, 6, 7, 8, 9, 10, 11] mixed rfl (by kernel_rfl) (by decide) (by decide) rfl ?_
  iterate 12 apply Exists.intro
  refine ⟨rfl, ?_, ?_⟩
  · simp only [List.take_succ_cons, List.take_zero, AllFrom.cons_eq, AllFrom.nil_eq, OpGoalQ]
    refine ⟨?_, ?_, ?_, ?_, ?_, ?_, ?_, ?_, ?_, ?_, ?_, ?_, trivial⟩
    all_goals (intro σ hp; (try simp only [List.getD_cons_zero, List.getD_cons_succ, List.map_cons, List.map_nil, preF_cons, preF_nil, isV, and_true] at hp); (first | (have hq : True := hp; clear hq hp) | skip))
    all_goals (go_simp; exact ⟨rfl, rfl⟩)
  intro σ hp
  simp only [List.getD_cons_zero, List.getD_cons_succ, List.map_cons, List.map_nil, preF_cons, preF_nil, isV, and_true] at hp
  simp only [List.drop_succ_cons, List.drop_zero]
  go_simp
  clear hp
  refine ⟨rfl, ?_⟩
  go_wp2_with fail
  refine H1.out.mono ?_
  rintro e w2 ⟨rfl, F2, ht2, htu⟩
  obtain ⟨h2, hT2⟩ := H0d.out.turnTab Hk.out ht2 htu
  have hd2 : ∀ y, w.heap.size ≤ y → y ∉ Fs kn := fun y hy e => by have := Hltw.out y (mem_wF.2 (.inr (.inr (.inr (.inr ⟨_, Hk.out, e⟩))))); omega
  have hz2 := htu.mod.keep (blk_drew Hz0.out) (hd2 _ (Nat.le_refl _))
  have hz3 := htu.mod.keep (blk_drew Hz1.out) (hd2 _ (by omega))
  have e0 := blk_cell h2.blk 2
  simp only [List.getElem?_toArray, List.getElem?_cons_zero, List.getElem?_cons_succ] at e0
  have hpl := blk_lt h2.blk
  have q0 := blk_cell hz2 0
  have q1 := blk_cell hz2 1
  simp only [List.getElem?_toArray, List.getElem?_cons_zero, List.getElem?_cons_succ] at q0 q1
  have ql := blk_lt hz2
  have r0 := blk_cell hz3 0
  have r1 := blk_cell hz3 1
  have r2 := blk_cell hz3 2
  have r3 := blk_cell hz3 3
  have r4 := blk_cell hz3 4
  have r5 := blk_cell hz3 5
  have r6 := blk_cell hz3 6
  have r7 := blk_cell hz3 7
  have r8 := blk_cell hz3 8
  simp only [List.getElem?_toArray, List.getElem?_cons_zero, List.getElem?_cons_succ] at r0 r1 r2 r3 r4 r5 r6 r7 r8
  have rl := blk_lt hz3
  have h2d := h2.below below_drew
  obtain ⟨w4, hrun, hmap, hmod, hsz⟩ := mi_put plPr_keys Tryz.underlying94 h2d.pm Hs.out Hn.out (kn, (rw kn).length)
  simp only [plPr] at hrun
  obtain ⟨h4, hT4⟩ := h2d.turnPl hmap hmod
  have hT := (((Turns.after Hb0.out (Turns.ofBelow below_drew)).trans hT2).trans (Turns.ofBelow below_drew)).trans hT4
  have H4 := Lib.hid h4; have HT := Lib.hid hT
  clear h4 hT
  clear ht2 htu h2 hT2 hd2 hz2 hz3 h2d hmap hmod hT4 hsz
  go_wp2_with fail
  refine wp_planR 10 [0, 8] [some 42, some 43, some 44, some 45, some 46, some 47, some 48, some 49, some 50, some 51, none] [[], [0], [0, 1], [0, 1, 2], [], [4], [], [6], [], [6, 7, 8], [0, 1, 2, 3, 4, 5, 6, 7, 8, 9]] [0, 1, 2, 3, 4, 5, 6, 7, 8, 9] mixed rfl (by kernel_rfl) (by decide) (by decide) rfl ?_
  iterate 10 apply Exists.intro
  refine ⟨rfl, ?_, ?_⟩
  · simp only [List.take_succ_cons, List.take_zero, AllFrom.cons_eq, AllFrom.nil_eq, OpGoalQ]
    refine ⟨?_, ?_, ?_, ?_, ?_, ?_, ?_, ?_, ?_, ?_, trivial⟩
    all_goals (intro σ hp; (try simp only [List.getD_cons_zero, List.getD_cons_succ, List.map_cons, List.map_nil, preF_cons, preF_nil, isV, and_true] at hp); (first | (have hq : True := hp; clear hq hp) | skip))
    all_goals (go_simp; exact ⟨rfl, rfl⟩)
  intro σ hp
  simp only [List.getD_cons_zero, List.getD_cons_succ, List.map_cons, List.map_nil, preF_cons, preF_nil, isV, and_true] at hp
  simp only [List.drop_succ_cons, List.drop_zero]
  go_simp
  clear hp
  go_wp2
  refine ⟨rfl, ?_⟩
  go_wp2
  refine bodyPost_end (v := .tuple #[]) ?_ rfl ?_
  · unfold results; try go_simp
  · exact ⟨rfl, _, _, _, H4.out, HT.out⟩
  all_goals exact undef
set_option maxRecDepth 20000 in
set_option maxHeartbeats 4000000 in
theorem lay_new (h : WorldAt w p ps mt mp sl tb rw pl FS Fs c) (s : Nat) (g : Int) (kn : Nat) (a0 a1 a2 a3 a4 a5 a6 a7 : Int) (hk : ∀ t ∈ tb, t.1 ≠ kn) (hkn : kn < 256) (hbe : beastE (kn : Int) [a0, a1, a2, a3, a4, a5, a6, a7] = 0)
    (hs : s < 256) (hn : ∀ x ∈ pl, x.1 ≠ s) :
    Calls Tryz.prog 80 #[.pointer (some ⟨p, 0, none⟩), .agg #[.int .i64 (s : Int), .int .i64 g], .agg #[.int .i64 (kn : Int), .int .i64 a0, .int .i64 a1, .int .i64 a2, .int .i64 a3, .int .i64 a4, .int .i64 a5, .int .i64 a6, .int .i64 a7]] w
      (fun e w' => ∃ b, WPost p ps mt mp sl (tb ++ [(kn, b)]) (updL rw kn [(((s : Int), g), (kn : Int), a0, a1, a2, a3, a4, a5, a6, a7)]) (pl ++ [(s, kn, 0)]) (wF p mt mp tb FS Fs) w (.tuple #[]) e w') := by
  obtain ⟨w0, hw0⟩ : ∃ w0, (w.alloc (.cells #[.int .i64 (s : Int), .int .i64 g] 41)).alloc (.cells #[.int .i64 (kn : Int), .int .i64 a0, .int .i64 a1, .int .i64 a2, .int .i64 a3, .int .i64 a4, .int .i64 a5, .int .i64 a6, .int .i64 a7] 50) = w0 := ⟨_, rfl⟩
  have hb0 : Below w.heap.size w w0 := by rw [← hw0]; exact ((Below.refl _ _).alloc (Nat.le_refl _) _).alloc (by simp) _
  have hz0 : w0.heap[w.heap.size]? = some (.cells #[.int .i64 (s : Int), .int .i64 g] 41 (0, 0)) := by rw [← hw0]; exact blk_alloc (heap_alloc_new w _) _
  have hz1 : w0.heap[w.heap.size + 1]? = some (.cells #[.int .i64 (kn : Int), .int .i64 a0, .int .i64 a1, .int .i64 a2, .int .i64 a3, .int .i64 a4, .int .i64 a5, .int .i64 a6, .int .i64 a7] 50 (0, 0)) := by
    rw [← hw0]; have := heap_alloc_new (w.alloc (.cells #[.int .i64 (s : Int), .int .i64 g] 41)) (.cells #[.int .i64 (kn : Int), .int .i64 a0, .int .i64 a1, .int .i64 a2, .int .i64 a3, .int .i64 a4, .int .i64 a5, .int .i64 a6, .int .i64 a7] 50); simpa using this
  have h0 := h.below hb0
  have h0d := h0.below below_drew
  have hlk := h0d.tm.look_out keyedInt Tryz.underlying93 (zeroTab _) (keyInt (inR_nat hkn)) (key_ne colPr_keys hk) true
  simp only [if_true] at hlk
  have e0 := blk_cell h0.blk 1
  simp only [List.getElem?_toArray, List.getElem?_cons_zero, List.getElem?_cons_succ] at e0
  have hpl := blk_lt h0.blk
  have q0 := blk_cell hz0 0
  have q1 := blk_cell hz0 1
  simp only [List.getElem?_toArray, List.getElem?_cons_zero, List.getElem?_cons_succ] at q0 q1
  have ql := blk_lt hz0
  have r0 := blk_cell hz1 0
  have r1 := blk_cell hz1 1
  have r2 := blk_cell hz1 2
  have r3 := blk_cell hz1 3
  have r4 := blk_cell hz1 4
  have r5 := blk_cell hz1 5
  have r6 := blk_cell hz1 6
  have r7 := blk_cell hz1 7
  have r8 := blk_cell hz1 8
  simp only [List.getElem?_toArray, List.getElem?_cons_zero, List.getElem?_cons_succ] at r0 r1 r2 r3 r4 r5 r6 r7 r8
  have rl := blk_lt hz1
  have HN := Lib.hid (rt_new kn hkn); have Hkn := Lib.hid hkn; have Hbe := Lib.hid hbe
  have hltw := h.lt
  have H := Lib.hid h; have Hb0 := Lib.hid hb0; have Hz0 := Lib.hid hz0; have Hz1 := Lib.hid hz1; have H0 := Lib.hid h0; have H0d := Lib.hid h0d; have Hltw := Lib.hid hltw; have Hk := Lib.hid hk; have Hn := Lib.hid hn; have Hs := Lib.hid hs
  clear h hb0 hz0 hz1 h0 h0d hltw hk hn hs
  clear hbe hkn
  go_enter Tryz.func80, Tryz.ntmps80
  go_wp2_with fail
  clear hw0
  refine wp_planR 12 [0] [some 11, some 12, some 13, some 14, some 15, some 16, some 17, some 10, some 18, some 19, some 6, some 7] [[], [0], [0, 1], [0, 1, 2], [], [4], [0, 1, 2, 3, 4, 5], [0, 1, 2, 3, 4, 5, 6], [0, 1, 2, 3, 4, 5, 6, 7], [0, 1, 2, 3, 4, 5, 6, 7], [0, 1, 2, 3, 4, 5, 6, 7, 8], [0, 1, 2, 3, 4, 5, 6, 7, 8, 9, 10]] [0, 1, 2, 3, 4, 5, 6, 7, 8, 9, 10, 11] mixed rfl (by kernel_rfl) (by decide) (by decide) rfl ?_
  iterate 12 apply Exists.intro
  refine ⟨rfl, ?_, ?_⟩
  · simp only [List.take_succ_cons, List.take_zero, AllFrom.cons_eq, AllFrom.nil_eq, OpGoalQ]
    refine ⟨?_, ?_, ?_, ?_, ?_, ?_, ?_, ?_, ?_, ?_, ?_, ?_, trivial⟩
    all_goals (intro σ hp; (try simp only [List.getD_cons_zero, List.getD_cons_succ, List.map_cons, List.map_nil, preF_cons, preF_nil, isV, and_true] at hp); (first | (have hq : True := hp; clear hq hp) | skip))
    all_goals (go_simp; exact ⟨rfl, rfl⟩)
  intro σ hp
  simp only [List.getD_cons_zero, List.getD_cons_succ, List.map_cons, List.map_nil, preF_cons, preF_nil, isV, and_true] at hp
  simp only [List.drop_succ_cons, List.drop_zero]
  go_simp
  clear hp
  refine ⟨rfl, ?_⟩
  go_wp2_with fail
  refine (HN.out _).mono ?_
  rintro e w1 ⟨b, F1, rfl, ht1, hF1, hb1⟩
  have hb01 : Below w0.heap.size w0 w1 := below_drew.trans (hb1.mono (Nat.le_refl _))
  have hz0 := (Mod.ofBelow hb01).keep Hz0.out (by simp)
  have hz1 := (Mod.ofBelow hb01).keep Hz1.out (by simp)
  have h1 := H0.out.below hb01
  have e0 := blk_cell h1.blk 1
  simp only [List.getElem?_toArray, List.getElem?_cons_zero, List.getElem?_cons_succ] at e0
  have hpl := blk_lt h1.blk
  have q0 := blk_cell hz0 0
  have q1 := blk_cell hz0 1
  simp only [List.getElem?_toArray, List.getElem?_cons_zero, List.getElem?_cons_succ] at q0 q1
  have ql := blk_lt hz0
  have r0 := blk_cell hz1 0
  have r1 := blk_cell hz1 1
  have r2 := blk_cell hz1 2
  have r3 := blk_cell hz1 3
  have r4 := blk_cell hz1 4
  have r5 := blk_cell hz1 5
  have r6 := blk_cell hz1 6
  have r7 := blk_cell hz1 7
  have r8 := blk_cell hz1 8
  simp only [List.getElem?_toArray, List.getElem?_cons_zero, List.getElem?_cons_succ] at r0 r1 r2 r3 r4 r5 r6 r7 r8
  have rl := blk_lt hz1
  obtain ⟨w2, hrun, hmap, hmod, hsz⟩ := mi_put colPr_keys Tryz.underlying93 (h1.below below_drew).tm Hkn.out Hk.out b
  simp only [colPr] at hrun
  obtain ⟨h2, hT2⟩ := H0.out.addTab (hb01.trans (below_drew.mono hb01.size)) (ht1.mod (Mod.ofBelow below_drew) (by simp)) (fun y hy => hF1 y hy) Hk.out hmap hmod
  have hno : ∀ y, w.heap.size ≤ y → y ∉ [mt] := fun y hy e => by simp at e; subst e; have := Hltw.out y (mem_wF.2 (.inr (.inl rfl))); omega
  have hz2 := hmod.keep (blk_drew hz0) (hno _ (Nat.le_refl _))
  have hz3 := hmod.keep (blk_drew hz1) (hno _ (by omega))
  have H2 := Lib.hid h2; have HT2 := Lib.hid hT2; have Hy0 := Lib.hid hz2; have Hy1 := Lib.hid hz3; have Hno := Lib.hid hno; have Hb01 := Lib.hid hb01; have Hx0 := Lib.hid hz0; have Hx1 := Lib.hid hz1; have H1 := Lib.hid h1
  clear h2 hT2 hz2 hz3 hno hb01 hz0 hz1 h1
  have HF1 := Lib.hid hF1
  clear ht1 hF1 hb1 hmap hmod hsz
  go_wp2_with fail
  refine wp_planR 7 [0, 6] [some 28, some 29, some 30, some 31, some 32, some 33, some 34, none] [[], [0], [0, 1], [0, 1, 2], [], [4], [], [0, 1, 2, 3, 4, 5, 6]] [0, 1, 2, 3, 4, 5, 6] mixed rfl (by kernel_rfl) (by decide) (by decide) rfl ?_
  iterate 7 apply Exists.intro
  refine ⟨rfl, ?_, ?_⟩
  · simp only [List.take_succ_cons, List.take_zero, AllFrom.cons_eq, AllFrom.nil_eq, OpGoalQ]
    refine ⟨?_, ?_, ?_, ?_, ?_, ?_, ?_, trivial⟩
    all_goals (intro σ hp; (try simp only [List.getD_cons_zero, List.getD_cons_succ, List.map_cons, List.map_nil, preF_cons, preF_nil, isV, and_true] at hp); (first | (have hq : True := hp; clear hq hp) | skip))
    all_goals (go_simp; exact ⟨rfl, rfl⟩)
  intro σ hp
  simp only [List.getD_cons_zero, List.getD_cons_succ, List.map_cons, List.map_nil, preF_cons, preF_nil, isV, and_true] at hp
  simp only [List.drop_succ_cons, List.drop_zero]
  go_simp
  clear hp
  go_wp2
  refine ⟨rfl, ?_⟩
  clear hrun e0 hpl q0 q1 ql r0 r1 r2 r3 r4 r5 r6 r7 r8 rl
  have hy0 := Hy0.out
  have hy1 := Hy1.out
  have q0 := blk_cell hy0 0
  have q1 := blk_cell hy0 1
  simp only [List.getElem?_toArray, List.getElem?_cons_zero, List.getElem?_cons_succ] at q0 q1
  have ql := blk_lt hy0
  have r0 := blk_cell hy1 0
  have r1 := blk_cell hy1 1
  have r2 := blk_cell hy1 2
  have r3 := blk_cell hy1 3
  have r4 := blk_cell hy1 4
  have r5 := blk_cell hy1 5
  have r6 := blk_cell hy1 6
  have r7 := blk_cell hy1 7
  have r8 := blk_cell hy1 8
  simp only [List.getElem?_toArray, List.getElem?_cons_zero, List.getElem?_cons_succ] at r0 r1 r2 r3 r4 r5 r6 r7 r8
  have rl := blk_lt hy1
  clear hy0 hy1
  have hk2 : (kn, b) ∈ tb ++ [(kn, b)] := by simp
  have ht := H2.out.tab _ hk2
  have hadd := rt_add ht Hkn.out (s : Int) g a0 a1 a2 a3 a4 a5 a6 a7 Hbe.out (by simp only [updL_same]; simp)
  simp only [updL_same] at hadd
  have HA := Lib.hid hadd
  have Hk2 := Lib.hid hk2
  clear hk2
  clear ht hadd
  go_wp2_with fail
  refine HA.out.mono ?_
  rintro e w3 ⟨rfl, F2, ht2, htu⟩
  obtain ⟨h2, hT3⟩ := H2.out.turnTab Hk2.out ht2 (by rw [updL_same]; exact htu)
  have htu : Turns w2 (updL Fs kn F1 kn) F2 w3 := by rw [updL_same]; exact htu
  have hd2 : ∀ y, y < w0.heap.size → y ∉ updL Fs kn F1 kn := fun y hy2 e => by
    rw [updL_same] at e
    have : w0.heap.size ≤ y := HF1.out y e
    omega
  have hz2 := htu.mod.keep Hy0.out (hd2 _ (blk_lt Hz0.out))
  have hz3 := htu.mod.keep Hy1.out (hd2 _ (blk_lt Hz1.out))
  have e0 := blk_cell h2.blk 2
  simp only [List.getElem?_toArray, List.getElem?_cons_zero, List.getElem?_cons_succ] at e0
  have hpl := blk_lt h2.blk
  have q0 := blk_cell hz2 0
  have q1 := blk_cell hz2 1
  simp only [List.getElem?_toArray, List.getElem?_cons_zero, List.getElem?_cons_succ] at q0 q1
  have ql := blk_lt hz2
  have r0 := blk_cell hz3 0
  have r1 := blk_cell hz3 1
  have r2 := blk_cell hz3 2
  have r3 := blk_cell hz3 3
  have r4 := blk_cell hz3 4
  have r5 := blk_cell hz3 5
  have r6 := blk_cell hz3 6
  have r7 := blk_cell hz3 7
  have r8 := blk_cell hz3 8
  simp only [List.getElem?_toArray, List.getElem?_cons_zero, List.getElem?_cons_succ] at r0 r1 r2 r3 r4 r5 r6 r7 r8
  have rl := blk_lt hz3
  have h2d := h2.below below_drew
  obtain ⟨w4, hrun, hmap, hmod, hsz⟩ := mi_put plPr_keys Tryz.underlying94 h2d.pm Hs.out Hn.out (kn, 0)
  simp only [plPr] at hrun
  rw [show ((0 : Nat) : Int) = 0 from rfl] at hrun
  obtain ⟨h4, hT4⟩ := h2d.turnPl hmap hmod
  have hT := (((Turns.after Hb0.out HT2.out).trans hT3).trans (Turns.ofBelow below_drew)).trans hT4
  have H4 := Lib.hid h4; have HT := Lib.hid hT
  clear h4 hT
  clear ht2 htu h2 hT3 hd2 hz2 hz3 h2d hmap hmod hT4 hsz
  go_wp2_with fail
  refine wp_planR 10 [0, 8] [some 42, some 43, some 44, some 45, some 46, some 47, some 48, some 49, some 50, some 51, none] [[], [0], [0, 1], [0, 1, 2], [], [4], [], [6], [], [6, 7, 8], [0, 1, 2, 3, 4, 5, 6, 7, 8, 9]] [0, 1, 2, 3, 4, 5, 6, 7, 8, 9] mixed rfl (by kernel_rfl) (by decide) (by decide) rfl ?_
  iterate 10 apply Exists.intro
  refine ⟨rfl, ?_, ?_⟩
  · simp only [List.take_succ_cons, List.take_zero, AllFrom.cons_eq, AllFrom.nil_eq, OpGoalQ]
    refine ⟨?_, ?_, ?_, ?_, ?_, ?_, ?_, ?_, ?_, ?_, trivial⟩
    all_goals (intro σ hp; (try simp only [List.getD_cons_zero, List.getD_cons_succ, List.map_cons, List.map_nil, preF_cons, preF_nil, isV, and_true] at hp); (first | (have hq : True := hp; clear hq hp) | skip))
    all_goals (go_simp; exact ⟨rfl, rfl⟩)
  intro σ hp
  simp only [List.getD_cons_zero, List.getD_cons_succ, List.map_cons, List.map_nil, preF_cons, preF_nil, isV, and_true] at hp
  simp only [List.drop_succ_cons, List.drop_zero]
  go_simp
  clear hp
  go_wp2
  refine ⟨rfl, ?_⟩
  go_wp2
  refine bodyPost_end (v := .tuple #[]) ?_ rfl ?_
  · unfold results; try go_simp
  · exact ⟨b, rfl, _, _, _, (by have := H4.out; rw [updL_twice] at this; exact this), HT.out⟩
  all_goals exact undef
end
end Go.Proofs.YtehjfmjibiafdaaGreat

/- A region whose drawn head reads, but for one operation that turns the world. -/
namespace Go.Proofs.YtehjfmjibiafdaaGreat
open Go Go.RowKit

section
variable {P : Program}
def OpGoalA (P : Program) (dsts : List (Option Tmp)) (pre : List (List Nat)) (vs : List Value) (a b : World) (n : Nat) (a0 : Act) (i : Nat) (o : Oper) : Prop :=
  ∀ (σ : Nat → Value), PreF (vs.map isV) σ a (pre.getD i []) →
    if i = n then (wantedL dsts (putF dsts σ (pre.getD i []) a0) o.guard = true ∧ YieldsR P o (putF dsts σ (pre.getD i []) a0).eval a (PostS (vs.getD i undef) b))
    else if wantedL dsts (putF dsts σ (pre.getD i []) a0) o.guard = true then YieldsR P o (putF dsts σ (pre.getD i []) a0).eval a (PostS (vs.getD i undef) a) ∧ YieldsR P o (putF dsts σ (pre.getD i []) a0).eval b (PostS (vs.getD i undef) b)
    else vs.getD i undef = undef
end
end Go.Proofs.YtehjfmjibiafdaaGreat

/- Worlds: lift a beast out of its table. (printed by mk_w4.py) -/
namespace Go.Proofs.YtehjfmjibiafdaaGreat
open Go Go.RowKit

attribute [local go_sem] AllFrom.cons_eq AllFrom.nil_eq putF_nil putF_cons wantedL_none wantedL_some OpGoalT OpGoalV OpGoalQ OpGoalA YieldsR preF_nil preF_cons

section
variable {w : World} {p ps mt mp : Nat} {sl : Sl} {tb : List (Nat × Nat)} {rw : Nat → List Rw} {pl : List Pl} {FS : List Nat} {Fs : Nat → List Nat} {c : Nat → Nat}

end
end Go.Proofs.YtehjfmjibiafdaaGreat

/- Worlds in memory by their slots and rows: New, and the two inner calls. -/
namespace Go.Proofs.YtehjfmjibiafdaaGreat
open Go Go.RowKit

/-- A world at block p with slots sl and rows L; F: its blocks. -/
def RepW (w : World) (p : Nat) (sl : Sl) (L : List Rw) (F : List Nat) : Prop :=
  ∃ ps mt mp tb rw pl FS Fs c, WorldAt w p ps mt mp sl tb rw pl FS Fs c ∧ WCore (· ∈ L) (tb.map (·.1)) rw pl ∧ WOk sl L ∧ F = wF p mt mp tb FS Fs
theorem RepW.mod {w w' : World} {p : Nat} {sl : Sl} {L : List Rw} {F G : List Nat} (h : RepW w p sl L F) (hm : Mod G w w') (hd : ∀ y ∈ F, y ∉ G) : RepW w' p sl L F := by
  obtain ⟨ps, mt, mp, tb, rw, pl, FS, Fs, c, h1, h2, h3, rfl⟩ := h
  exact ⟨ps, mt, mp, tb, rw, pl, FS, Fs, c, h1.mod hm hd, h2, h3, rfl⟩
theorem RepW.below {w w' : World} {p : Nat} {sl : Sl} {L : List Rw} {F : List Nat} (h : RepW w p sl L F) (hb : Below w.heap.size w w') : RepW w' p sl L F := h.mod (Mod.ofBelow hb) (by simp)
theorem RepW.lt {w : World} {p : Nat} {sl : Sl} {L : List Rw} {F : List Nat} (h : RepW w p sl L F) : ∀ y ∈ F, y < w.heap.size := by
  obtain ⟨ps, mt, mp, tb, rw, pl, FS, Fs, c, h1, h2, h3, rfl⟩ := h
  exact h1.lt
theorem RepW.ok {w : World} {p : Nat} {sl : Sl} {L : List Rw} {F : List Nat} (h : RepW w p sl L F) : WOk sl L := by
  obtain ⟨ps, mt, mp, tb, rw, pl, FS, Fs, c, h1, h2, h3, rfl⟩ := h
  exact h3
theorem MapAt.fresh {w' : World} {b : Nat} (h : w'.heap[b]? = some (.map #[] 0)) : MapAt Tryz.prog 3 w' b [] := ⟨#[], 0, h, ⟨Go.MapKept.stamped_empty 0, by simp, rfl⟩⟩

def NewW (w : World) (e : Ending) (w' : World) : Prop := ∃ p F, e = .returned (.pointer (some ⟨p, 0, none⟩)) ∧ RepW w' p [] [] F ∧ (∀ y ∈ F, w.heap.size ≤ y) ∧ Below w.heap.size w w'
set_option maxRecDepth 20000 in
theorem worldNew_any (w : World) : Calls Tryz.prog 42 #[] w (NewW w) := by
  have hmm := @run_makeMap Tryz.prog
  go_enter Tryz.func42, Tryz.ntmps42
  go_wp2_with fail
  refine (slotsNew_any _).mono ?_
  rintro e w1 ⟨ps, rfl, hb1, hs1, hps⟩
  have hsz := hb1.size
  have hpl := hs1.lt ps (by simp)
  obtain ⟨w2, hw2⟩ : ∃ w2, w2 = ((w1.alloc (.map #[] 0)).alloc (.map #[] 0)).alloc (.cells #[.pointer (some ⟨ps, 0, none⟩), .map (some w1.heap.size), .map (some (w1.heap.size + 1))] 96) := ⟨_, rfl⟩
  have h0 : w2.heap[w1.heap.size]? = some (.map #[] 0) := by rw [hw2]; exact blk_alloc (blk_alloc (MapKept.heap_alloc w1 _).1 _) _
  have h1 : w2.heap[w1.heap.size + 1]? = some (.map #[] 0) := by rw [hw2]; have := (MapKept.heap_alloc (w1.alloc (.map #[] 0)) (.map #[] 0)).1; simp only [World.size_alloc] at this; exact blk_alloc this _
  have h2 : w2.heap[w1.heap.size + 2]? = some (.cells #[.pointer (some ⟨ps, 0, none⟩), .map (some w1.heap.size), .map (some (w1.heap.size + 1))] 96 (0, 0)) := by
    rw [hw2]; have := heap_alloc_new ((w1.alloc (.map #[] 0)).alloc (.map #[] 0)) (.cells #[.pointer (some ⟨ps, 0, none⟩), .map (some w1.heap.size), .map (some (w1.heap.size + 1))] 96); simpa using this
  have hb2 : Below w1.heap.size w1 w2 := by rw [hw2]; exact (((Below.refl _ _).alloc (Nat.le_refl _) _).alloc (by simp only [World.size_alloc]; omega) _).alloc (by simp only [World.size_alloc]; omega) _
  have HS := Lib.hid (hs1.mod (Mod.ofBelow hb2) (by simp)); have HB := Lib.hid (hb1.trans (hb2.mono hsz)); have HW := Lib.hid hw2
  have H0 := Lib.hid h0; have H1 := Lib.hid h1; have H2 := Lib.hid h2
  clear hs1 hb1 hw2 h0 h1 h2 hb2
  go_wp2
  go_ret
  rw [← HW.out]
  refine ⟨w1.heap.size + 2, wF (w1.heap.size + 2) w1.heap.size (w1.heap.size + 1) [] [ps] (fun _ => []), rfl, ⟨ps, w1.heap.size, w1.heap.size + 1, [], fun _ => [], [], [ps], fun _ => [], fun y => if y = w1.heap.size + 2 then 1 else if y = ps then 2 else if y = w1.heap.size then 3 else 4, ⟨H2.out, HS.out, MapAt.fresh H0.out, MapAt.fresh H1.out, by simp, by simp, fun y hy => ?_, ?_, ?_, by simp⟩, ?_, wok_nil, rfl⟩, ?_, HB.out⟩
  · simp at hy; subst hy; rw [if_neg (by omega), if_pos rfl]
  · show (if _ then _ else _) = 3
    rw [if_neg (by omega), if_neg (by omega), if_pos rfl]
  · show (if _ then _ else _) = 4
    rw [if_neg (by omega), if_neg (by omega), if_neg (by omega)]
  · exact wcore_nil.congr (by simp)
  · intro y hy
    rcases mem_wF.1 hy with rfl | rfl | rfl | hy | ⟨t, ht, -⟩
    · omega
    · omega
    · omega
    · simp at hy; omega
    · simp at ht

section
variable {w : World} {p ps mt mp : Nat} {sl : Sl} {tb : List (Nat × Nat)} {rw : Nat → List Rw} {pl : List Pl} {FS : List Nat} {Fs : Nat → List Nat} {c : Nat → Nat} {M : Rw → Prop} {L : List Rw}
theorem WCore.len (h : WCore M (tb.map (·.1)) rw pl) (hL : ∀ y, M y → y ∈ L) {k : Nat} (hk : k ∈ tb.map (·.1)) : (rw k).length ≤ L.length := by
  refine List.Nodup.length_le_of_subset ?_ fun y hy => ?_
  · refine List.pairwise_iff_getElem.2 fun i j hi hj hij e => ?_
    obtain ⟨-, -, s, q1, q2⟩ := h.row k hk i _ (List.getElem?_eq_getElem hi)
    obtain ⟨-, -, s', q3, q4⟩ := h.row k hk j _ (List.getElem?_eq_getElem hj)
    rw [e] at q1
    have : s = s' := by omega
    subst this
    have := key_one h.pn q2 q4
    simp only [Prod.mk.injEq] at this
    omega
  · obtain ⟨i, hi, rfl⟩ := List.mem_iff_getElem.1 hy
    exact hL _ (h.row k hk i _ (List.getElem?_eq_getElem hi)).1
/-- What lay and lift leave. -/
def WMid (p ps mt mp : Nat) (sl : Sl) (M : Rw → Prop) (F : List Nat) (w : World) (r : Value) (e : Ending) (w' : World) : Prop :=
  e = .returned r ∧ ∃ tb rw pl FS Fs c, WorldAt w' p ps mt mp sl tb rw pl FS Fs c ∧ WCore M (tb.map (·.1)) rw pl ∧ Turns w F (wF p mt mp tb FS Fs) w'
theorem lay_core (h : WorldAt w p ps mt mp sl tb rw pl FS Fs c) (hc : WCore M (tb.map (·.1)) rw pl) (hL : ∀ y, M y → y ∈ L) (hL60 : L.length ≤ 60) (s : Nat) (hs : s < 256) (g K a0 a1 a2 a3 a4 a5 a6 a7 : Int) (hb : beastZ (K, a0, a1, a2, a3, a4, a5, a6, a7) = 0)
    (hn : ∀ y, M y → y.1.1 ≠ (s : Int)) :
    Calls Tryz.prog 80 #[.pointer (some ⟨p, 0, none⟩), .agg #[.int .i64 (s : Int), .int .i64 g], .agg #[.int .i64 K, .int .i64 a0, .int .i64 a1, .int .i64 a2, .int .i64 a3, .int .i64 a4, .int .i64 a5, .int .i64 a6, .int .i64 a7]] w
      (WMid p ps mt mp sl (fun y => M y ∨ y = (((s : Int), g), K, a0, a1, a2, a3, a4, a5, a6, a7)) (wF p mt mp tb FS Fs) w (.tuple #[])) := by
  obtain ⟨kn, hkn, e, -⟩ := (beastZ_iff _).1 hb
  simp only at e
  subst e
  have hsn := hc.slotNew hn
  by_cases hk : kn ∈ tb.map (·.1)
  · obtain ⟨⟨k', b⟩, hkb, rfl⟩ := List.mem_map.1 hk
    have hl : (rw k').length ≤ L.length := hc.len hL hk
    refine (lay_old h s g k' b a0 a1 a2 a3 a4 a5 a6 a7 hkb hkn hb hs hsn (by omega)).mono ?_
    rintro e w' ⟨rfl, FS', Fs', c', h', hT⟩
    exact ⟨rfl, _, _, _, _, _, _, h', hc.layOld hk rfl rfl hn, hT⟩
  · refine (lay_new h s g kn a0 a1 a2 a3 a4 a5 a6 a7 (fun t ht e => hk (List.mem_map.2 ⟨t, ht, e⟩)) hkn hb hs hsn).mono ?_
    rintro e w' ⟨b, rfl, FS', Fs', c', h', hT⟩
    refine ⟨rfl, _, _, _, _, _, _, h', ?_, hT⟩
    rw [List.map_append]
    exact hc.layNew hk rfl rfl hn
end
end Go.Proofs.YtehjfmjibiafdaaGreat
