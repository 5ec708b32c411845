import Derived.Test.YtehjfmjibiafdaaGreatZooTellsJ21
import Derived.Test.YtehjfmjibiafdaaGreatZooTellsJ10
/- Worlds: lay a beast into its table. -/
namespace Go.Proofs.YtehjfmjibiafdaaGreat
open Go Go.RowKit

/-- What a call leaves of a world. -/
def WPost (p ps mt mp : Nat) (sl : Sl) (tb : List (Nat × Nat)) (rw : Nat → List Rw) (pl : List Pl) (F : List Nat) (w : World) (r : Value) (e : Ending) (w' : World) : Prop :=
  e = .returned r ∧ ∃ FS Fs c, WorldAt w' p ps mt mp sl tb rw pl FS Fs c ∧ Turns w F (wF p mt mp tb FS Fs) w'

attribute [local go_sem] AllFrom.cons_eq AllFrom.nil_eq putF_nil putF_cons wantedL_none wantedL_some OpGoalT OpGoalV OpGoalQ YieldsR preF_nil preF_cons

theorem zeroTab (w : World) : (zeroValue 113).run Tryz.prog w = .ok (.pointer none) w := by kernel_rfl
theorem updL_twice {α : Type} (f : Nat → α) (k : Nat) (x y : α) : updL (updL f k x) k y = updL f k y := by funext j; unfold updL; split <;> rfl
theorem below_drew {w : World} : Below w.heap.size w w.drew := (Below.refl _ _).drew
section
variable {w : World} {p ps mt mp : Nat} {sl : Sl} {tb : List (Nat × Nat)} {rw : Nat → List Rw} {pl : List Pl} {FS : List Nat} {Fs : Nat → List Nat} {c : Nat → Nat}

set_option maxRecDepth 20000 in
set_option maxHeartbeats 4000000 in
theorem lay_old (h : WorldAt w p ps mt mp sl tb rw pl FS Fs c) (s : Nat) (g : Int) (kn b : Nat) (a0 a1 a2 a3 a4 a5 a6 a7 : Int) (hk : (kn, b) ∈ tb) (hkn : kn < 256) (hbe : beastE (kn : Int) [a0, a1, a2, a3, a4, a5, a6, a7] = 0)
    (hs : s < 256) (hn : ∀ x ∈ pl, x.1 ≠ s) (hl : (rw kn).length < 1200000000000) :
    Calls Tryz.prog 80 #[.pointer (some ⟨p, 0, none⟩), .agg #[.int .i64 (s : Int), .int .i64 g], .agg #[.int .i64 (kn : Int), .int .i64 a0, .int .i64 a1, .int .i64 a2, .int .i64 a3, .int .i64 a4, .int .i64 a5, .int .i64 a6, .int .i64 a7]] w
      (WPost p ps mt mp sl tb (updL rw kn (rw kn ++ [(((s : Int), g), (kn : Int), a0, a1, a2, a3, a4, a5, a6, a7)])) (pl ++ [(s, kn, (rw kn).length)]) (wF p mt mp tb FS Fs) w (.tuple #[])) := by
  obtain ⟨w0, hw0⟩ : ∃ w0, (w.alloc (.cells #[.int .i64 (s : Int), .int .i64 g] 41)).alloc (.cells #[.int .i64 (kn : Int), .int .i64 a0, .int .i64 a1, .int .i64 a2, .int .i64 a3, .int .i64 a4, .int .i64 a5, .int .i64 a6, .int .i64 a7] 50) = w0 := ⟨_, rfl⟩
  have hb0 : Below w.heap.size w w0 := by rw [← hw0]; exact ((Below.refl _ _).alloc (Nat.le_refl _) _).alloc (by simp) _
  have hz0 : w0.heap[w.heap.size]? = some (.cells #[.int .i64 (s : Int), .int .i64 g] 41 (0, 0)) := by rw [← hw0]; exact blk_alloc (heap_alloc_new w _) _
  have hz1 : w0.heap[w.heap.size + 1]? = some (.cells #[.int .i64 (kn : Int), .int .i64 a0, .int .i64 a1, .int .i64 a2, .int .i64 a3, .int .i64 a4, .int .i64 a5, .int .i64 a6, .int .i64 a7] 50 (0, 0)) := by
    rw [← hw0]; have := heap_alloc_new (w.alloc (.cells #[.int .i64 (s : Int), .int .i64 g] 41)) (.cells #[.int .i64 (kn : Int), .int .i64 a0, .int .i64 a1, .int .i64 a2, .int .i64 a3, .int .i64 a4, .int .i64 a5, .int .i64 a6, .int .i64 a7] 50); simpa using this
  have h0 := h.below hb0
  have h0d := h0.below below_drew
  have hlk := mi_in colPr_keys Tryz.underlying93 h0d.tm hkn hk true
  simp only [colPr, if_true] at hlk
  have e0 := blk_cell h0.blk 1
  simp only [List.getElem?_toArray, List.getElem?_cons_zero, List.getElem?_cons_succ] at e0
  have hpl := blk_lt h0.blk
  have q0 := blk_cell hz0 0
  have q1 := blk_cell hz0 1
  simp only [List.getElem?_toArray, List.getElem?_cons_zero, List.getElem?_cons_succ] at q0 q1
  have ql := blk_lt hz0
  have r0 := blk_cell hz1 0
  have r1 := blk_cell hz1 1
  have r2 := blk_cell hz1 2
  have r3 := blk_cell hz1 3
  have r4 := blk_cell hz1 4
  have r5 := blk_cell hz1 5
  have r6 := blk_cell hz1 6
  have r7 := blk_cell hz1 7
  have r8 := blk_cell hz1 8
  simp only [List.getElem?_toArray, List.getElem?_cons_zero, List.getElem?_cons_succ] at r0 r1 r2 r3 r4 r5 r6 r7 r8
  have rl := blk_lt hz1
  have H1 := Lib.hid (rt_add (h0d.tab _ hk) hkn (s : Int) g a0 a1 a2 a3 a4 a5 a6 a7 hbe hl)
  have hltw := h.lt
  have H := Lib.hid h; have Hb0 := Lib.hid hb0; have Hz0 := Lib.hid hz0; have Hz1 := Lib.hid hz1; have H0 := Lib.hid h0; have H0d := Lib.hid h0d; have Hltw := Lib.hid hltw; have Hk := Lib.hid hk; have Hn := Lib.hid hn; have Hs := Lib.hid hs
  clear h hb0 hz0 hz1 h0 h0d hltw hk hn hs
  clear hbe hl
  go_enter Tryz.func80, Tryz.ntmps80
  go_wp2_with fail
  clear hw0
  refine wp_planR 12 [0] [some 11, some 12, some 13, some 14, some 15, some 16, some 17, some 10, some 18, some 19, some 6, some 7] [[], [0], [0, 1], [0, 1, 2], [], [4], [0, 1, 2, 3, 4, 5], [0, 1, 2, 3, 4, 5, 6], [0, 1, 2, 3, 4, 5, 6, 7], [0, 1, 2, 3, 4, 5, 6, 7], [0, 1, 2, 3, 4, 5, 6, 7, 8], [0, 1, 2, 3, 4, 5, 6, 7, 8, 9, 10]] [0, 1, 2, 3, 4, 5, 6, 7, 8, 9, 10, 11] mixed rfl (by kernel_rfl) (by decide) (by decide) rfl ?_
  iterate 12 apply Exists.intro
  refine ⟨rfl, ?_, ?_⟩
  · simp only [List.take_succ_cons, List.take_zero, AllFrom.cons_eq, AllFrom.nil_eq, OpGoalQ]
    refine ⟨?_, ?_, ?_, ?_, ?_, ?_, ?_, ?_, ?_, ?_, ?_, ?_, trivial⟩
    all_goals (intro σ hp; (try simp only [List.getD_cons_zero, List.getD_cons_succ, List.map_cons, List.map_nil, preF_cons, preF_nil, isV, and_true] at hp); (first | (have hq : True := hp; clear hq hp) | skip))
    all_goals (go_simp; exact ⟨rfl, rfl⟩)
  intro σ hp
  simp only [List.getD_cons_zero, List.getD_cons_succ, List.map_cons, List.map_nil, preF_cons, preF_nil, isV, and_true] at hp
  simp only [List.drop_succ_cons, List.drop_zero]
  go_simp
  clear hp
  refine ⟨rfl, ?_⟩
  go_wp2_with fail
  refine H1.out.mono ?_
  rintro e w2 ⟨rfl, F2, ht2, htu⟩
  obtain ⟨h2, hT2⟩ := H0d.out.turnTab Hk.out ht2 htu
  have hd2 : ∀ y, w.heap.size ≤ y → y ∉ Fs kn := fun y hy e => by have := Hltw.out y (mem_wF.2 (.inr (.inr (.inr (.inr ⟨_, Hk.out, e⟩))))); omega
  have hz2 := htu.mod.keep (blk_drew Hz0.out) (hd2 _ (Nat.le_refl _))
  have hz3 := htu.mod.keep (blk_drew Hz1.out) (hd2 _ (by omega))
  have e0 := blk_cell h2.blk 2
  simp only [List.getElem?_toArray, List.getElem?_cons_zero, List.getElem?_cons_succ] at e0
  have hpl := blk_lt h2.blk
  have q0 := blk_cell hz2 0
  have q1 := blk_cell hz2 1
  simp only [List.getElem?_toArray, List.getElem?_cons_zero, List.getElem?_cons_succ] at q0 q1
  have ql := blk_lt hz2
  have r0 := blk_cell hz3 0
  have r1 := blk_cell hz3 1
  have r2 := blk_cell hz3 2
  have r3 := blk_cell hz3 3
  have r4 := blk_cell hz3 4
  have r5 := blk_cell hz3 5
  have r6 := blk_cell hz3 6
  have r7 := blk_cell hz3 7
  have r8 := blk_cell hz3 8
  simp only [List.getElem?_toArray, List.getElem?_cons_zero, List.getElem?_cons_succ] at r0 r1 r2 r3 r4 r5 r6 r7 r8
  have rl := blk_lt hz3
  have h2d := h2.below below_drew
  obtain ⟨w4, hrun, hmap, hmod, hsz⟩ := mi_put plPr_keys Tryz.underlying94 h2d.pm Hs.out Hn.out (kn, (rw kn).length)
  simp only [plPr] at hrun
  obtain ⟨h4, hT4⟩ := h2d.turnPl hmap hmod
  have hT := (((Turns.after Hb0.out (Turns.ofBelow below_drew)).trans hT2).trans (Turns.ofBelow below_drew)).trans hT4
  have H4 := Lib.hid h4; have HT := Lib.hid hT
  clear h4 hT
  clear ht2 htu h2 hT2 hd2 hz2 hz3 h2d hmap hmod hT4 hsz
  go_wp2_with fail
  refine wp_planR 10 [0, 8] [some 42, some 43, some 44, some 45, some 46, some 47, some 48, some 49, some 50, some 51, none] [[], [0], [0, 1], [0, 1, 2], [], [4], [], [6], [], [6, 7, 8], [0, 1, 2, 3, 4, 5, 6, 7, 8, 9]] [0, 1, 2, 3, 4, 5, 6, 7, 8, 9] mixed rfl (by kernel_rfl) (by decide) (by decide) rfl ?_
  iterate 10 apply Exists.intro
  refine ⟨rfl, ?_, ?_⟩
  · simp only [List.take_succ_cons, List.take_zero, AllFrom.cons_eq, AllFrom.nil_eq, OpGoalQ]
    refine ⟨?_, ?_, ?_, ?_, ?_, ?_, ?_, ?_, ?_, ?_, trivial⟩
    all_goals (intro σ hp; (try simp only [List.getD_cons_zero, List.getD_cons_succ, List.map_cons, List.map_nil, preF_cons, preF_nil, isV, and_true] at hp); (first | (have hq : True := hp; clear hq hp) | skip))
    all_goals (go_simp; exact ⟨rfl, rfl⟩)
  intro σ hp
  simp only [List.getD_cons_zero, List.getD_cons_succ, List.map_cons, List.map_nil, preF_cons, preF_nil, isV, and_true] at hp
  simp only [List.drop_succ_cons, List.drop_zero]
  go_simp
  clear hp
  go_wp2
  refine ⟨rfl, ?_⟩
  go_wp2
  refine bodyPost_end (v := .tuple #[]) ?_ rfl ?_
  · unfold results; try go_simp
  · exact ⟨rfl, _, _, _, H4.out, HT.out⟩
  all_goals exact undef
set_option maxRecDepth 20000 in
set_option maxHeartbeats 4000000 in
theorem lay_new (h : WorldAt w p ps mt mp sl tb rw pl FS Fs c) (s : Nat) (g : Int) (kn : Nat) (a0 a1 a2 a3 a4 a5 a6 a7 : Int) (hk : ∀ t ∈ tb, t.1 ≠ kn) (hkn : kn < 256) (hbe : beastE (kn : Int) [a0, a1, a2, a3, a4, a5, a6, a7] = 0)
    (hs : s < 256) (hn : ∀ x ∈ pl, x.1 ≠ s) :
    Calls Tryz.prog 80 #[.pointer (some ⟨p, 0, none⟩), .agg #[.int .i64 (s : Int), .int .i64 g], .agg #[.int .i64 (kn : Int), .int .i64 a0, .int .i64 a1, .int .i64 a2, .int .i64 a3, .int .i64 a4, .int .i64 a5, .int .i64 a6, .int .i64 a7]] w
      (fun e w' => ∃ b, WPost p ps mt mp sl (tb ++ [(kn, b)]) (updL rw kn [(((s : Int), g), (kn : Int), a0, a1, a2, a3, a4, a5, a6, a7)]) (pl ++ [(s, kn, 0)]) (wF p mt mp tb FS Fs) w (.tuple #[]) e w') := by
  obtain ⟨w0, hw0⟩ : ∃ w0, (w.alloc (.cells #[.int .i64 (s : Int), .int .i64 g] 41)).alloc (.cells #[.int .i64 (kn : Int), .int .i64 a0, .int .i64 a1, .int .i64 a2, .int .i64 a3, .int .i64 a4, .int .i64 a5, .int .i64 a6, .int .i64 a7] 50) = w0 := ⟨_, rfl⟩
  have hb0 : Below w.heap.size w w0 := by rw [← hw0]; exact ((Below.refl _ _).alloc (Nat.le_refl _) _).alloc (by simp) _
  have hz0 : w0.heap[w.heap.size]? = some (.cells #[.int .i64 (s : Int), .int .i64 g] 41 (0, 0)) := by rw [← hw0]; exact blk_alloc (heap_alloc_new w _) _
  have hz1 : w0.heap[w.heap.size + 1]? = some (.cells #[.int .i64 (kn : Int), .int .i64 a0, .int .i64 a1, .int .i64 a2, .int .i64 a3, .int .i64 a4, .int .i64 a5, .int .i64 a6, .int .i64 a7] 50 (0, 0)) := by
    rw [← hw0]; have := heap_alloc_new (w.alloc (.cells #[.int .i64 (s : Int), .int .i64 g] 41)) (.cells #[.int .i64 (kn : Int), .int .i64 a0, .int .i64 a1, .int .i64 a2, .int .i64 a3, .int .i64 a4, .int .i64 a5, .int .i64 a6, .int .i64 a7] 50); simpa using this
  have h0 := h.below hb0
  have h0d := h0.below below_drew
  have hlk := h0d.tm.look_out keyedInt Tryz.underlying93 (zeroTab _) (keyInt (inR_nat hkn)) (key_ne colPr_keys hk) true
  simp only [if_true] at hlk
  have e0 := blk_cell h0.blk 1
  simp only [List.getElem?_toArray, List.getElem?_cons_zero, List.getElem?_cons_succ] at e0
  have hpl := blk_lt h0.blk
  have q0 := blk_cell hz0 0
  have q1 := blk_cell hz0 1
  simp only [List.getElem?_toArray, List.getElem?_cons_zero, List.getElem?_cons_succ] at q0 q1
  have ql := blk_lt hz0
  have r0 := blk_cell hz1 0
  have r1 := blk_cell hz1 1
  have r2 := blk_cell hz1 2
  have r3 := blk_cell hz1 3
  have r4 := blk_cell hz1 4
  have r5 := blk_cell hz1 5
  have r6 := blk_cell hz1 6
  have r7 := blk_cell hz1 7
  have r8 := blk_cell hz1 8
  simp only [List.getElem?_toArray, List.getElem?_cons_zero, List.getElem?_cons_succ] at r0 r1 r2 r3 r4 r5 r6 r7 r8
  have rl := blk_lt hz1
  have HN := Lib.hid (rt_new kn hkn); have Hkn := Lib.hid hkn; have Hbe := Lib.hid hbe
  have hltw := h.lt
  have H := Lib.hid h; have Hb0 := Lib.hid hb0; have Hz0 := Lib.hid hz0; have Hz1 := Lib.hid hz1; have H0 := Lib.hid h0; have H0d := Lib.hid h0d; have Hltw := Lib.hid hltw; have Hk := Lib.hid hk; have Hn := Lib.hid hn; have Hs := Lib.hid hs
  clear h hb0 hz0 hz1 h0 h0d hltw hk hn hs
  clear hbe hkn
  go_enter Tryz.func80, Tryz.ntmps80
  go_wp2_with fail
  clear hw0
  refine wp_planR 12 [0] [some 11, some 12, some 13, some 14, some 15, some 16, some 17, some 10, some 18, some 19, some 6, some 7] [[], [0], [0, 1], [0, 1, 2], [], [4], [0, 1, 2, 3, 4, 5], [0, 1, 2, 3, 4, 5, 6], [0, 1, 2, 3, 4, 5, 6, 7], [0, 1, 2, 3, 4, 5, 6, 7], [0, 1, 2, 3, 4, 5, 6, 7, 8], [0, 1, 2, 3, 4, 5, 6, 7, 8, 9, 10]] [0, 1, 2, 3, 4, 5, 6, 7, 8, 9, 10, 11] mixed rfl (by kernel_rfl) (by decide) (by decide) rfl ?_
  iterate 12 apply Exists.intro
  refine ⟨rfl, ?_, ?_⟩
  · simp only [List.take_succ_cons, List.take_zero, AllFrom.cons_eq, AllFrom.nil_eq, OpGoalQ]
    refine ⟨?_, ?_, ?_, ?_, ?_, ?_, ?_, ?_, ?_, ?_, ?_, ?_, trivial⟩
    all_goals (intro σ hp; (try simp only [List.getD_cons_zero, List.getD_cons_succ, List.map_cons, List.map_nil, preF_cons, preF_nil, isV, and_true] at hp); (first | (have hq : True := hp; clear hq hp) | skip))
    all_goals (go_simp; exact ⟨rfl, rfl⟩)
  intro σ hp
  simp only [List.getD_cons_zero, List.getD_cons_succ, List.map_cons, List.map_nil, preF_cons, preF_nil, isV, and_true] at hp
  simp only [List.drop_succ_cons, List.drop_zero]
  go_simp
  clear hp
  refine ⟨rfl, ?_⟩
  go_wp2_with fail
  refine (HN.out _).mono ?_
  rintro e w1 ⟨b, F1, rfl, ht1, hF1, hb1⟩
  have hb01 : Below w0.heap.size w0 w1 := below_drew.trans (hb1.mono (Nat.le_refl _))
  have hz0 := (Mod.ofBelow hb01).keep Hz0.out (by simp)
  have hz1 := (Mod.ofBelow hb01).keep Hz1.out (by simp)
  have h1 := H0.out.below hb01
  have e0 := blk_cell h1.blk 1
  simp only [List.getElem?_toArray, List.getElem?_cons_zero, List.getElem?_cons_succ] at e0
  have hpl := blk_lt h1.blk
  have q0 := blk_cell hz0 0
  have q1 := blk_cell hz0 1
  simp only [List.getElem?_toArray, List.getElem?_cons_zero, List.getElem?_cons_succ] at q0 q1
  have ql := blk_lt hz0
  have r0 := blk_cell hz1 0
  have r1 := blk_cell hz1 1
  have r2 := blk_cell hz1 2
  have r3 := blk_cell hz1 3
  have r4 := blk_cell hz1 4
  have r5 := blk_cell hz1 5
  have r6 := blk_cell hz1 6
  have r7 := blk_cell hz1 7
  have r8 := blk_cell hz1 8
  simp only [List.getElem?_toArray, List.getElem?_cons_zero, List.getElem?_cons_succ] at r0 r1 r2 r3 r4 r5 r6 r7 r8
  have rl := blk_lt hz1
  obtain ⟨w2, hrun, hmap, hmod, hsz⟩ := mi_put colPr_keys Tryz.underlying93 (h1.below below_drew).tm Hkn.out Hk.out b
  simp only [colPr] at hrun
  obtain ⟨h2, hT2⟩ := H0.out.addTab (hb01.trans (below_drew.mono hb01.size)) (ht1.mod (Mod.ofBelow below_drew) (by simp)) (fun y hy => hF1 y hy) Hk.out hmap hmod
  have hno : ∀ y, w.heap.size ≤ y → y ∉ [mt] := fun y hy e => by simp at e; subst e; have := Hltw.out y (mem_wF.2 (.inr (.inl rfl))); omega
  have hz2 := hmod.keep (blk_drew hz0) (hno _ (Nat.le_refl _))
  have hz3 := hmod.keep (blk_drew hz1) (hno _ (by omega))
  have H2 := Lib.hid h2; have HT2 := Lib.hid hT2; have Hy0 := Lib.hid hz2; have Hy1 := Lib.hid hz3; have Hno := Lib.hid hno; have Hb01 := Lib.hid hb01; have Hx0 := Lib.hid hz0; have Hx1 := Lib.hid hz1; have H1 := Lib.hid h1
  clear h2 hT2 hz2 hz3 hno hb01 hz0 hz1 h1
  have HF1 := Lib.hid hF1
  clear ht1 hF1 hb1 hmap hmod hsz
  go_wp2_with fail
  refine wp_planR 7 [0, 6] [some 28, some 29, some 30, some 31, some 32, some 33, some 34, none] [[], [0], [0, 1], [0, 1, 2], [], [4], [], [0, 1, 2, 3, 4, 5, 6]] [0, 1, 2, 3, 4, 5, 6] mixed rfl (by kernel_rfl) (by decide) (by decide) rfl ?_
  iterate 7 apply Exists.intro
  refine ⟨rfl, ?_, ?_⟩
  · simp only [List.take_succ_cons, List.take_zero, AllFrom.cons_eq, AllFrom.nil_eq, OpGoalQ]
    refine ⟨?_, ?_, ?_, ?_, ?_, ?_, ?_, trivial⟩
    all_goals (intro σ hp; (try simp only [List.getD_cons_zero, List.getD_cons_succ, List.map_cons, List.map_nil, preF_cons, preF_nil, isV, and_true] at hp); (first | (have hq : True := hp; clear hq hp) | skip))
    all_goals (go_simp; exact ⟨rfl, rfl⟩)
  intro σ hp
  simp only [List.getD_cons_zero, List.getD_cons_succ, List.map_cons, List.map_nil, preF_cons, preF_nil, isV, and_true] at hp
  simp only [List.drop_succ_cons, List.drop_zero]
  go_simp
  clear hp
  go_wp2
  refine ⟨rfl, ?_⟩
  clear hrun e0 hpl q0 q1 ql r0 r1 r2 r3 r4 r5 r6 r7 r8 rl
  have hy0 := Hy0.out
  have hy1 := Hy1.out
  have q0 := blk_cell hy0 0
  have q1 := blk_cell hy0 1
  simp only [List.getElem?_toArray, List.getElem?_cons_zero, List.getElem?_cons_succ] at q0 q1
  have ql := blk_lt hy0
  have r0 := blk_cell hy1 0
  have r1 := blk_cell hy1 1
  have r2 := blk_cell hy1 2
  have r3 := blk_cell hy1 3
  have r4 := blk_cell hy1 4
  have r5 := blk_cell hy1 5
  have r6 := blk_cell hy1 6
  have r7 := blk_cell hy1 7
  have r8 := blk_cell hy1 8
  simp only [List.getElem?_toArray, List.getElem?_cons_zero, List.getElem?_cons_succ] at r0 r1 r2 r3 r4 r5 r6 r7 r8
  have rl := blk_lt hy1
  clear hy0 hy1
  have hk2 : (kn, b) ∈ tb ++ [(kn, b)] := by simp
  have ht := H2.out.tab _ hk2
  have hadd := rt_add ht Hkn.out (s : Int) g a0 a1 a2 a3 a4 a5 a6 a7 Hbe.out (by simp only [updL_same]; simp)
  simp only [updL_same] at hadd
  have HA := Lib.hid hadd
  have Hk2 := Lib.hid hk2
  clear hk2
  clear ht hadd
  go_wp2_with fail
  refine HA.out.mono ?_
  rintro e w3 ⟨rfl, F2, ht2, htu⟩
  obtain ⟨h2, hT3⟩ := H2.out.turnTab Hk2.out ht2 (by rw [updL_same]; exact htu)
  have htu : Turns w2 (updL Fs kn F1 kn) F2 w3 := by rw [updL_same]; exact htu
  have hd2 : ∀ y, y < w0.heap.size → y ∉ updL Fs kn F1 kn := fun y hy2 e => by
    rw [updL_same] at e
    have : w0.heap.size ≤ y := HF1.out y e
    omega
  have hz2 := htu.mod.keep Hy0.out (hd2 _ (blk_lt Hz0.out))
  have hz3 := htu.mod.keep Hy1.out (hd2 _ (blk_lt Hz1.out))
  have e0 := blk_cell h2.blk 2
  simp only [List.getElem?_toArray, List.getElem?_cons_zero, List.getElem?_cons_succ] at e0
  have hpl := blk_lt h2.blk
  have q0 := blk_cell hz2 0
  have q1 := blk_cell hz2 1
  simp only [List.getElem?_toArray, List.getElem?_cons_zero, List.getElem?_cons_succ] at q0 q1
  have ql := blk_lt hz2
  have r0 := blk_cell hz3 0
  have r1 := blk_cell hz3 1
  have r2 := blk_cell hz3 2
  have r3 := blk_cell hz3 3
  have r4 := blk_cell hz3 4
  have r5 := blk_cell hz3 5
  have r6 := blk_cell hz3 6
  have r7 := blk_cell hz3 7
  have r8 := blk_cell hz3 8
  simp only [List.getElem?_toArray, List.getElem?_cons_zero, List.getElem?_cons_succ] at r0 r1 r2 r3 r4 r5 r6 r7 r8
  have rl := blk_lt hz3
  have h2d := h2.below below_drew
  obtain ⟨w4, hrun, hmap, hmod, hsz⟩ := mi_put plPr_keys Tryz.underlying94 h2d.pm Hs.out Hn.out (kn, 0)
  simp only [plPr] at hrun
  rw [show ((0 : Nat) : Int) = 0 from rfl] at hrun
  obtain ⟨h4, hT4⟩ := h2d.turnPl hmap hmod
  have hT := (((Turns.after Hb0.out HT2.out).trans hT3).trans (Turns.ofBelow below_drew)).trans hT4
  have H4 := Lib.hid h4; have HT := Lib.hid hT
  clear h4 hT
  clear ht2 htu h2 hT3 hd2 hz2 hz3 h2d hmap hmod hT4 hsz
  go_wp2_with fail
  refine wp_planR 10 [0, 8] [some 42, some 43, some 44, some 45, some 46, some 47, some 48, some 49, some 50, some 51, none] [[], [0], [0, 1], [0, 1, 2], [], [4], [], [6], [], [6, 7, 8], [0, 1, 2, 3, 4, 5, 6, 7, 8, 9]] [0, 1, 2, 3, 4, 5, 6, 7, 8, 9] mixed rfl (by kernel_rfl) (by decide) (by decide) rfl ?_
  iterate 10 apply Exists.intro
  refine ⟨rfl, ?_, ?_⟩
  · simp only [List.take_succ_cons, List.take_zero, AllFrom.cons_eq, AllFrom.nil_eq, OpGoalQ]
    refine ⟨?_, ?_, ?_, ?_, ?_, ?_, ?_, ?_, ?_, ?_, trivial⟩
    all_goals (intro σ hp; (try simp only [List.getD_cons_zero, List.getD_cons_succ, List.map_cons, List.map_nil, preF_cons, preF_nil, isV, and_true] at hp); (first | (have hq : True := hp; clear hq hp) | skip))
    all_goals (go_simp; exact ⟨rfl, rfl⟩)
  intro σ hp
  simp only [List.getD_cons_zero, List.getD_cons_succ, List.map_cons, List.map_nil, preF_cons, preF_nil, isV, and_true] at hp
  simp only [List.drop_succ_cons, List.drop_zero]
  go_simp
  clear hp
  go_wp2
  refine ⟨rfl, ?_⟩
  go_wp2
  refine bodyPost_end (v := .tuple #[]) ?_ rfl ?_
  · unfold results; try go_simp
  · exact ⟨b, rfl, _, _, _, (by have := H4.out; rw [updL_twice] at this; exact this), HT.out⟩
  all_goals exact undef
end
end Go.Proofs.YtehjfmjibiafdaaGreat

/- A region whose drawn head reads, but for one operation that turns the world. -/
namespace Go.Proofs.YtehjfmjibiafdaaGreat
open Go Go.RowKit

section
variable {P : Program}
theorem keepAll_isV {σ : Nat → Value} {L : Nat → Bool} {w w' : World} : ∀ (vs : List Value) (k : Nat), KeepAll σ L w w' k (vs.map isV)
  | [], _ => trivial
  | _ :: vs, k => keep_isV (keepAll_isV vs (k + 1))
def OpGoalA (P : Program) (dsts : List (Option Tmp)) (pre : List (List Nat)) (vs : List Value) (a b : World) (n : Nat) (a0 : Act) (i : Nat) (o : Oper) : Prop :=
  ∀ (σ : Nat → Value), PreF (vs.map isV) σ a (pre.getD i []) →
    if i = n then (wantedL dsts (putF dsts σ (pre.getD i []) a0) o.guard = true ∧ YieldsR P o (putF dsts σ (pre.getD i []) a0).eval a (PostS (vs.getD i undef) b))
    else if wantedL dsts (putF dsts σ (pre.getD i []) a0) o.guard = true then YieldsR P o (putF dsts σ (pre.getD i []) a0).eval a (PostS (vs.getD i undef) a) ∧ YieldsR P o (putF dsts σ (pre.getD i []) a0).eval b (PostS (vs.getD i undef) b)
    else vs.getD i undef = undef
/-- A region that draws its order, whose head only reads but for operation n: that one turns the world a into b. -/
theorem wp_planA {Q : Exit → Act → World → Prop} {id : Nat} {l : List Oper} {a0 : Act} {w0 : World} (b : World) (n m : Nat) (fl : List Nat) (dsts : List (Option Tmp)) (pre : List (List Nat)) (is : List Nat)
    (hm : P.follows .mixedOrders = true) (hd : l.map (·.dst) = dsts) (hc : planOk l.toArray pre = true) (hT : tailOkB l pre m fl = true) (hmn : m ≤ l.length) (hn : n < m) (his : List.range m = is)
    (h : ExL m fun vs => vs.length = m ∧ AllFrom (OpGoalA P dsts pre vs w0.drew b n a0) 0 (l.take m) ∧
      (∀ (σ : Nat → Value), PreF (vs.map isV) σ w0.drew is → wpList P l.toArray (OnlyN Q) (l.drop m) (putF dsts σ is a0) b)) :
    (Code.region id l.toArray true).wp P Q a0 w0 := by
  obtain ⟨vs, hl, h1, h2⟩ := h.out
  have hgd : ∀ i, i < m → (vs.map isV).getD i (fun _ _ => True) = isV (vs.getD i undef) := fun i hi => by
    rw [List.getD_eq_getElem?_getD, List.getElem?_map, List.getD_eq_getElem?_getD]
    have : i < vs.length := by omega
    rw [List.getElem?_eq_getElem this]; rfl
  refine wp_planF m fl dsts pre is 0 (fun _ => vs.map isV) (fun L _ V => V = if L n = true then b else w0.drew) hm hd hc hT hmn rfl his ?_
  show _ ∧ _
  refine ⟨allFrom_imp _ _ (fun j o hj hp => ?_) h1, ?_⟩
  · have hjm : j < m := by
      rcases Nat.lt_or_ge j m with h | h
      · exact h
      · rw [List.getElem?_eq_none (by rw [List.length_take]; omega)] at hj; cases hj
    intro L σ w hL1 hL2 hL3 hI hpre
    have := hp σ (preF_isV hpre)
    simp only [Nat.zero_add] at this hL1 ⊢
    by_cases hjn : j = n
    · subst hjn
      rw [if_pos rfl] at this
      rw [hL1] at hI
      simp only [Bool.false_eq_true, if_false] at hI
      subst hI
      rw [if_pos this.1]
      refine this.2.mono ?_
      rintro v w' ⟨hv, hw'⟩
      subst hw'
      exact ⟨by rw [hgd j hjm]; exact hv, by simp [upd], keepAll_isV _ _⟩
    · rw [if_neg hjn] at this
      have hu : upd L j n = L n := by unfold upd; simp [Ne.symm hjn]
      split
      · next hw =>
        rw [if_pos hw] at this
        by_cases hLn : L n = true
        · rw [if_pos hLn] at hI; subst hI
          refine this.2.mono ?_
          rintro v w' ⟨hv, hw'⟩
          subst hw'
          exact ⟨by rw [hgd j hjm]; exact hv, by rw [hu, if_pos hLn], keepAll_isV _ _⟩
        · rw [if_neg hLn] at hI; subst hI
          refine this.1.mono ?_
          rintro v w' ⟨hv, hw'⟩
          subst hw'
          exact ⟨by rw [hgd j hjm]; exact hv, by rw [hu, if_neg hLn], keepAll_isV _ _⟩
      · next hw =>
        rw [if_neg hw] at this
        exact ⟨by rw [hgd j hjm, this]; rfl, by rw [hu]; exact hI, keepAll_isV _ _⟩
  · intro L σ w hL hI hpre
    have : L n = true := hL n (by rw [← his]; simpa using hn)
    rw [if_pos this] at hI
    subst hI
    exact h2 σ (preF_isV hpre)
end
end Go.Proofs.YtehjfmjibiafdaaGreat
