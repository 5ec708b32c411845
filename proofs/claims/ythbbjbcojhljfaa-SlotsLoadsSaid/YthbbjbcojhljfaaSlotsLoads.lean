/- The law SlotsLoads returns true for every input. -/
import Derived.Test.YthbbjbcojhljfaaRows
import Derived.Test.YthbbjbcojhljfaaClosed
import Derived.Test.YthbbjbcojhljfaaLaw
import Derived.Test.YthbbjbcojhljfaaLoad5
import Derived.Test.YthbbjbcojhljfaaBoth
namespace Go.Proofs.Ythbbjbcojhljfaa
open Go.ChangeShapes Go.WideShapes Go.ChangeAt Go.RowKit

attribute [local go_sem] AllFrom.cons_eq AllFrom.nil_eq putF_nil putF_cons wantedL_none wantedL_some OpGoalT OpGoalS OpGoalP OpGoalV YieldsR preF_nil preF_cons

theorem load_err (A : Option Addr) (c : Nat) (gs : List Int) (A' : Option Addr) (c' : Nat) (ks : List Int) (w : World) (hg : gs.length ≤ 9223372036854775807) (hk : ks.length ≤ 9223372036854775807) (hA : Lies w w.heap.size A (ints gs)) (hA' : Lies w w.heap.size A' (ints ks)) (hE : loadE gs ks ≠ 0) :
    Calls Try.prog 52 #[.slice A gs.length c, .slice A' ks.length c'] w fun e w' => e = .returned (.tuple #[.pointer none, .int .i64 (loadE gs ks)]) ∧ Below w.heap.size w w' :=
  (load_any A c gs A' c' ks w hg hk hA hA').mono fun e w' ⟨hb, h⟩ => by
    rcases h with ⟨_, h⟩ | ⟨h, _⟩
    · exact ⟨h, hb⟩
    · exact absurd h hE
theorem rload_err (A : Option Addr) (c : Nat) (gs : List Int) (A' : Option Addr) (c' : Nat) (ks : List Int) (w : World) (hg : gs.length ≤ 9223372036854775807) (hk : ks.length ≤ c') (hc : c' ≤ 9223372036854775807) (hA : Lies w w.heap.size A (ints gs)) (hA' : Lies w w.heap.size A' (ints ks)) (hE : loadE gs ks ≠ 0) :
    Calls Try.prog 53 #[.slice A gs.length c, .slice A' ks.length c'] w fun e w' => e = .returned (.tuple #[.pointer none, .int .i64 (loadE gs ks)]) ∧ Below w.heap.size w w' :=
  (rload_any A c gs A' c' ks w hg hk hc hA hA').mono fun e w' ⟨hb, h⟩ => by
    rcases h with ⟨_, h⟩ | ⟨h, _⟩
    · exact ⟨h, hb⟩
    · exact absurd h hE
theorem load_ok (A : Option Addr) (c : Nat) (gs : List Int) (A' : Option Addr) (c' : Nat) (ks : List Int) (w : World) (hg : gs.length ≤ 9223372036854775807) (hk : ks.length ≤ 9223372036854775807) (hA : Lies w w.heap.size A (ints gs)) (hA' : Lies w w.heap.size A' (ints ks)) (hE : loadE gs ks = 0) :
    Calls Try.prog 52 #[.slice A gs.length c, .slice A' ks.length c'] w fun e w' => ∃ p F, e = .returned (.tuple #[.pointer (some ⟨p, 0, none⟩), .int .i64 0]) ∧ RepS w' p (loadL gs ks) F ∧ (∀ k ∈ F, w.heap.size ≤ k) ∧ SlOk (loadL gs ks) ∧ Below w.heap.size w w' :=
  (load_any A c gs A' c' ks w hg hk hA hA').mono fun e w' ⟨hb, h⟩ => by
    rcases h with ⟨h, _⟩ | ⟨_, p, F, h1, h2, h3, h4⟩
    · exact absurd hE h
    · exact ⟨p, F, h1, h2, h3, h4, hb⟩
theorem rload_ok (A : Option Addr) (c : Nat) (gs : List Int) (A' : Option Addr) (c' : Nat) (ks : List Int) (w : World) (hg : gs.length ≤ 9223372036854775807) (hk : ks.length ≤ c') (hc : c' ≤ 9223372036854775807) (hA : Lies w w.heap.size A (ints gs)) (hA' : Lies w w.heap.size A' (ints ks)) (hE : loadE gs ks = 0) :
    Calls Try.prog 53 #[.slice A gs.length c, .slice A' ks.length c'] w fun e w' => ∃ p F, e = .returned (.tuple #[.pointer (some ⟨p, 0, none⟩), .int .i64 0]) ∧ RepRS w' p (loadL gs ks) F ∧ (∀ k ∈ F, w.heap.size ≤ k) ∧ Below w.heap.size w w' :=
  (rload_any A c gs A' c' ks w hg hk hc hA hA').mono fun e w' ⟨hb, h⟩ => by
    rcases h with ⟨h, _⟩ | ⟨_, p, F, h1, h2, h3, h4⟩
    · exact absurd hE h
    · exact ⟨p, F, h1, h2, h3, hb⟩
theorem load_bad (b : Nat) (w : World) (hc : w.cell? ⟨b, 0, none⟩ = some (.int .i64 (-1))) (hb : b < w.heap.size) :
    Calls Try.prog 52 #[.slice (some ⟨b, 0, none⟩) 1 1, .slice none 0 0] w fun e w' => e = .returned (.tuple #[.pointer none, .int .i64 1]) ∧ Below w.heap.size w w' := by
  have hA : Lies w w.heap.size (some ⟨b, 0, none⟩) (ints [-1]) := by
    intro j u hu
    cases j with
    | zero =>
      simp [ints] at hu
      subst hu
      exact ⟨_, rfl, hb, hc⟩
    | succ j => simp [ints] at hu
  have hE : loadE [-1] [] = 1 := by decide
  have h := load_err (some ⟨b, 0, none⟩) 1 [-1] none 0 [] w (by simp) (by simp) hA (Lies.nil _ _ _) (by rw [hE]; decide)
  rw [hE] at h
  exact h

set_option maxRecDepth 20000 in
set_option maxHeartbeats 4000000 in
theorem slotsLoads_err (A : Option Addr) (c : Nat) (gs : List Int) (A' : Option Addr) (c' : Nat) (ks : List Int) (W : World) (hg : gs.length ≤ 9223372036854775807) (hk : ks.length ≤ c') (hc : c' ≤ 9223372036854775807) (hA : Lies W W.heap.size A (ints gs)) (hA' : Lies W W.heap.size A' (ints ks)) (hE : loadE gs ks ≠ 0) :
    Calls Try.prog 11 #[.slice A gs.length c, .slice A' ks.length c'] W fun e W' => e = .returned (.bool true) ∧ Below W.heap.size W W' := by
  have h1 := load_err A c gs A' c' ks W hg (by omega) hA hA' hE
  have h2 := fun w1 (hb : Below W.heap.size W w1) => rload_err A c gs A' c' ks w1 hg hk hc ((hA.below hb).mono hb.size) ((hA'.below hb).mono hb.size) hE
  generalize loadE gs ks = E at *
  have H1 := Lib.hid h1; have H2 := Lib.hid h2
  clear h1 h2 hA hA' hE hg hk hc
  go_enter Try.func11, Try.ntmps11
  go_wp2_with fail
  refine H1.out.mono ?_
  rintro e w1 ⟨rfl, hb1⟩
  have h2 := H2.out w1 hb1
  have H2' := Lib.hid h2; have HB1 := Lib.hid hb1
  clear h2 hb1 H1 H2
  go_wp2_with fail
  refine H2'.out.mono ?_
  rintro e w2 ⟨rfl, hb2⟩
  have HB2 := Lib.hid (HB1.out.trans (hb2.mono HB1.out.size))
  clear hb2 H2' HB1
  go_wp2_with fail
  refine (load_bad w2.heap.size _ (by simp) (by simp)).mono ?_
  rintro e w3 ⟨rfl, hb3⟩
  have HB3 := Lib.hid ((HB2.out.alloc HB2.out.size _).trans (hb3.mono (by have := HB2.out.size; simp; omega)))
  clear hb3 HB2
  go_wp2
  go_ret
  exact ⟨rfl, HB3.out⟩

set_option maxRecDepth 20000 in
set_option maxHeartbeats 4000000 in
theorem slotsLoads_ok (A : Option Addr) (c : Nat) (gs : List Int) (A' : Option Addr) (c' : Nat) (ks : List Int) (W : World) (hg : gs.length ≤ 9223372036854775807) (hk : ks.length ≤ c') (hc : c' ≤ 9223372036854775807) (hA : Lies W W.heap.size A (ints gs)) (hA' : Lies W W.heap.size A' (ints ks)) (hE : loadE gs ks = 0) :
    Calls Try.prog 11 #[.slice A gs.length c, .slice A' ks.length c'] W fun e W' => e = .returned (.bool true) ∧ Below W.heap.size W W' := by
  have h1 := load_ok A c gs A' c' ks W hg (by omega) hA hA' hE
  have h2 := fun w1 (hb : Below W.heap.size W w1) => rload_ok A c gs A' c' ks w1 hg hk hc ((hA.below hb).mono hb.size) ((hA'.below hb).mono hb.size) hE
  generalize loadL gs ks = sl at *
  have H1 := Lib.hid h1; have H2 := Lib.hid h2
  clear h1 h2 hA hA' hE hg hk hc
  go_enter Try.func11, Try.ntmps11
  go_wp2_with fail
  refine H1.out.mono ?_
  rintro e w1 ⟨p, F, rfl, hs1, hF1, hok, hb1⟩
  have h2 := H2.out w1 hb1
  have H2' := Lib.hid h2; have HB1 := Lib.hid hb1; have HS1 := Lib.hid hs1; have HF1 := Lib.hid hF1; have HOk := Lib.hid hok
  clear h2 hb1 H1 H2 hs1 hF1 hok
  go_wp2_with fail
  refine H2'.out.mono ?_
  rintro e w2 ⟨q, G, rfl, hr2, hG2, hb2⟩
  have hB2 : Both W w2 p q sl F G := by
    refine ⟨HS1.out.mod (Mod.ofBelow hb2) (by simp), hr2, HOk.out, ?_, HF1.out, ?_, HB1.out.trans (hb2.mono HB1.out.size)⟩
    · intro k hk hkG
      have h1 := HS1.out.lt k hk
      have h2 := hG2 k hkG
      omega
    · intro k hk
      have h1 := HB1.out.size
      have h2 := hG2 k hk
      omega
  have HB2 := Lib.hid hB2
  clear hb2 H2' HB1 HS1 HF1 hr2 hG2 hB2 HOk
  go_wp2_with fail
  refine (load_bad w2.heap.size _ (by simp) (by simp)).mono ?_
  rintro e w3 ⟨rfl, hb3⟩
  have HB3 := Lib.hid ((HB2.out.grow ((Below.refl _ _).alloc (Nat.le_refl _) _)).grow hb3)
  clear hb3 HB2
  go_wp2_with fail
  refine (take_any p sl F w3 HB3.out.s HB3.out.ok).mono ?_
  rintro e w4 ⟨rfl, F4, hs4, ht4⟩
  have HS4 := Lib.hid hs4; have HT4 := Lib.hid ht4
  clear hs4 ht4
  go_wp2_with fail
  refine (rtake_any q sl G _ (HB3.out.refR HT4.out ((Below.refl _ _).alloc (Nat.le_refl _) _)) HB3.out.ok).mono ?_
  rintro e w5 ⟨rfl, G5, hr5, ht5⟩
  have hB5 := HB3.out.step HS4.out HT4.out ((Below.refl _ _).alloc (Nat.le_refl _) _) hr5 ht5 HB3.out.ok.take
  have hk4 : w5.heap[w4.heap.size]? = some (.cells #[.int .i64 (takeK sl), .int .i64 (takeG sl)] 59 (0, 0)) :=
    ht5.mod.keep (heap_alloc_new w4 _) (fun h => by have := (HB3.out.refR HT4.out (Below.refl _ _)).lt _ h; omega)
  obtain ⟨w6, hw6⟩ : ∃ w6, w6 = w5.alloc (.cells #[.int .i64 (takeK sl), .int .i64 (takeG sl)] 59) := ⟨_, rfl⟩
  have hB6 : Both W w6 p q (takeL sl) F4 G5 := by rw [hw6]; exact hB5.grow ((Below.refl _ _).alloc (Nat.le_refl _) _)
  have hk6 : w6.heap[w4.heap.size]? = some (.cells #[.int .i64 (takeK sl), .int .i64 (takeG sl)] 59 (0, 0)) := by rw [hw6]; exact blk_alloc hk4 _
  have hk6' : w6.heap[w5.heap.size]? = some (.cells #[.int .i64 (takeK sl), .int .i64 (takeG sl)] 59 (0, 0)) := by rw [hw6]; exact heap_alloc_new w5 _
  have HB6 := Lib.hid hB6; have HK6 := Lib.hid hk6; have HK6' := Lib.hid hk6'
  clear hB5 hr5 ht5 hk4 hB6 hk6 hk6' HS4 HT4 HB3
  generalize takeL sl = sl5 at *
  generalize takeK sl = tk at *
  generalize takeG sl = tg at *
  generalize takeE sl = te at *
  go_wp2
  rw [← hw6]
  clear hw6
  have hlen5 := allS_len sl5
  have hok5 := HB6.out.ok.1
  obtain ⟨vg, vl, hq5, hg5, -, -, -⟩ := HB6.out.r
  rw [← gensS_len] at hg5
  have HQ5 := Lib.hid hq5; have HG5 := Lib.hid hg5
  have hcmp : ∀ w, (binOp .eql 59 (.agg #[.int .i64 tk, .int .i64 tg]) (.agg #[.int .i64 tk, .int .i64 tg])).run Try.prog w = .ok (.bool true) w := fun w => by rw [eqlHandle, eqB_self]
  clear hq5 hg5
  refine wp_planE [some 58, some 59, some 60, some 61, some 62, some 63, some 64, some 65, some 66, some 67, some 68, some 69, some 70, some 71, some 72, some 73, some 74, some 75, some 76, some 77, some 78, some 79, some 80, some 81, some 4] [[], [], [0, 1], [0, 1, 2], [0, 1, 2, 3], [0, 1, 2, 3], [0, 1, 2, 3, 4, 5], [0, 1, 2, 3, 4, 5, 6], [0, 1, 2, 3, 4, 5, 6, 7], [0, 1, 2, 3, 4, 5, 6, 7, 8], [0, 1, 2, 3, 4, 5, 6, 7, 8, 9], [0, 1, 2, 3, 4, 5, 6, 7, 8], [0, 1, 2, 3, 4, 5, 6, 7, 8, 9, 10, 11], [0, 1, 2, 3, 4, 5, 6, 7, 8, 9, 10, 11, 12], [0, 1, 2, 3, 4, 5, 6, 7, 8, 9, 10, 11, 12, 13], [0, 1, 2, 3, 4, 5, 6, 7, 8, 9, 10, 11, 12, 13, 14], [0, 1, 2, 3, 4, 5, 6, 7, 8, 9, 10, 11, 12, 13, 14, 15], [0, 1, 2, 3, 4, 5, 6, 7, 8, 9, 10, 11, 12, 13, 14, 15, 16], [0, 1, 2, 3, 4, 5, 6, 7, 8, 9, 10, 11, 12, 13, 14, 15], [0, 1, 2, 3, 4, 5, 6, 7, 8, 9, 10, 11, 12, 13, 14, 15, 18], [0, 1, 2, 3, 4, 5, 6, 7, 8, 9, 10, 11, 12, 13, 14, 15, 18, 19], [0, 1, 2, 3, 4, 5, 6, 7, 8, 9, 10, 11, 12, 13, 14, 15, 18, 19, 20], [0, 1, 2, 3, 4, 5, 6, 7, 8, 9, 10, 11, 12, 13, 14, 15, 16, 17, 18, 19, 20, 21], [0, 1, 2, 3, 4, 5, 6, 7, 8, 9, 10, 11, 12, 13, 14, 15, 16, 17, 18, 19, 20, 21, 22], [0, 1, 2, 3, 4, 5, 6, 7, 8, 9, 10, 11, 12, 13, 14, 15, 16, 17, 18, 19, 20, 21, 22, 23]] [0, 1, 2, 3, 4, 5, 6, 7, 8, 9, 10, 11, 12, 13, 14, 15, 16, 17, 18, 19, 20, 21, 22, 23, 24] 25 (fun vs => [isV (vs.getD 0 undef), isV (vs.getD 1 undef), isV (vs.getD 2 undef), isV (vs.getD 3 undef), isV (vs.getD 4 undef), isV (vs.getD 5 undef), isV (vs.getD 6 undef), isV (vs.getD 7 undef), isV (vs.getD 8 undef), isV (vs.getD 9 undef), (rowV 0 59 2 (allS sl5).length ((allS sl5).flatMap handleC)), isV (vs.getD 11 undef), (rowV 0 59 2 (allS sl5).length ((allS sl5).flatMap handleC)), (isV (.bool true)), isV (vs.getD 14 undef), isV (vs.getD 15 undef), isV (vs.getD 16 undef), (rowV 0 3 1 (gensS sl5).length (ints (gensS sl5))), isV (vs.getD 18 undef), isV (vs.getD 19 undef), isV (vs.getD 20 undef), (rowV 0 3 1 (gensS sl5).length (ints (gensS sl5))), (isV (.bool true)), isV (vs.getD 23 undef), isV (vs.getD 24 undef)])
    Grow (fun _ V => Below w6.heap.size w6 V) mixed rfl (by kernel_rfl) (Below.refl _ _).drew rfl ?_
  iterate 25 apply Exists.intro
  refine ⟨?_, ?_, by repeat (first | exact allStab_nil | refine allStab_isV ?_ | refine allStab_rowV ?_)⟩
  · simp only [AllFrom.cons_eq, AllFrom.nil_eq, OpGoalT]
    refine ⟨?_, ?_, ?_, ?_, ?_, ?_, ?_, ?_, ?_, ?_, ?_, ?_, ?_, ?_, ?_, ?_, ?_, ?_, ?_, ?_, ?_, ?_, ?_, ?_, ?_, trivial⟩
    all_goals (intro L' σ V h1 h2 h3 hI hp; clear h1 h2 h3; (try simp only [List.getD_cons_zero, List.getD_cons_succ, preF_cons, preF_nil, isV, and_true] at hp); (first | (have hq : True := hp; clear hq hp) | skip))
    all_goals (
      have HI := Lib.hid hI
      have hzk := (Mod.ofBelow hI).keep HK6.out (by simp)
      have hzk' := (Mod.ofBelow hI).keep HK6'.out (by simp)
      have hqk := (Mod.ofBelow hI).keep HQ5.out (by simp)
      have q0 := blk_cell hzk 0
      have q1 := blk_cell hzk 1
      have q0' := blk_cell hzk' 0
      have q1' := blk_cell hzk' 1
      have q2 := blk_cell hqk 0
      simp only [List.getElem?_toArray, List.getElem?_cons_zero, List.getElem?_cons_succ] at q0 q1 q0' q1' q2
      clear hI hzk hzk' hqk)
    all_goals (try (go_simp; exact ⟨rfl, HI.out, Grow.refl _⟩))
    · go_simp
      refine (all_any p sl5 _ V (HB6.out.grow HI.out).s hok5).mono ?_
      rintro e w7 ⟨v, rfl, hown, hb⟩
      exact ⟨_, rfl, row_base hown (by simp), HI.out.trans (hb.mono HI.out.size), hb⟩
    · go_simp
      refine (rall_any q sl5 _ V (HB6.out.grow HI.out).r hok5).mono ?_
      rintro e w7 ⟨v, rfl, hown, hb⟩
      exact ⟨_, rfl, row_base hown (by simp), HI.out.trans (hb.mono HI.out.size), hb⟩
    · have r1 := hp.2.2.2.2.2.2.2.2.2.2.1
      have r2 := hp.2.2.2.2.2.2.2.2.2.2.2.2
      go_simp
      refine (eqHandle_rows (allS sl5) _ _ V (by omega) r1 r2).mono ?_
      rintro e w7 ⟨rfl, hb⟩
      exact ⟨_, rfl, rfl, HI.out.trans (hb.mono HI.out.size), hb⟩
    · go_simp
      refine (gens_any p sl5 _ V (HB6.out.grow HI.out).s hok5).mono ?_
      rintro e w7 ⟨v, rfl, hown, hb⟩
      exact ⟨_, rfl, row_base hown (by simp), HI.out.trans (hb.mono HI.out.size), hb⟩
    · go_simp
      exact ⟨row_mod HG5.out (Mod.ofBelow HI.out) (by simp), HI.out, Grow.refl _⟩
    · have r1 := hp.2.2.2.2.2.2.2.2.2.2.2.2.2.2.2.2.2.1
      have r2 := hp.2.2.2.2.2.2.2.2.2.2.2.2.2.2.2.2.2.2.2.2.2
      go_simp
      refine (eqInt_rows (gensS sl5) _ _ V (by rw [gensS_len]; omega) r1 r2).mono ?_
      rintro e w7 ⟨rfl, hb⟩
      exact ⟨_, rfl, rfl, HI.out.trans (hb.mono HI.out.size), hb⟩
  · intro L' σ V h1 hI hp
    clear h1
    simp only [List.getD_cons_zero, List.getD_cons_succ, preF_cons, preF_nil, isV, and_true] at hp
    have HI := Lib.hid hI
    clear hI
    go_simp
    clear hp
    go_wp2
    go_ret
    exact ⟨rfl, (HB6.out.grow HI.out).below⟩
  all_goals exact undef

set_option maxRecDepth 100000 in
theorem slotsLoads_law {H : Type} {enc : TypeId × Value → H} (W : World) (base : Nat) (args : Array Value) (ds : List (DataW H)) (ps : List MemPlace)
    (hval : ∀ (j : Nat) t v, Try.f11.params[j]? = some t → args[j]? = some v → Value.okWide Try.prog W .any base t v)
    (hA : DataW.TrodAll enc Try.prog W 0 (fun _ => true) true Try.f11.params.toList args.toList ds ps) (hlt : ∀ p ∈ ps, p.block < W.heap.size) :
    Calls Try.prog 11 args W fun e W' => e = .returned (.bool true) ∧ Below W.heap.size W W' := by
  rw [Try.params11] at hA hval
  obtain ⟨v0, v1, d0, d1, p0, p1, rfl, rfl, rfl, h0, h1⟩ := trodAll_two hA
  obtain ⟨A, n, c, gs, rfl, hn, hc, hl, -, hL⟩ := open_slice_flat Try.underlying27 intCells_int (k := 1) (by kernel_rfl) (by omega) (hval 0 27 v0 rfl rfl) h0 (fun p hp => hlt p (by simp [hp]))
  obtain rfl : n = gs.length := by omega
  obtain ⟨A', n', c', ks, rfl, hn', hc', hl', -, hL'⟩ := open_slice_flat Try.underlying27 intCells_int (k := 1) (by kernel_rfl) (by omega) (hval 1 27 v1 rfl rfl) h1 (fun p hp => hlt p (by simp [hp]))
  obtain rfl : n' = ks.length := by omega
  by_cases hE : loadE gs ks = 0
  · exact slotsLoads_ok A c gs A' c' ks W (by omega) hn' hc' hL hL' hE
  · exact slotsLoads_err A c gs A' c' ks W (by omega) hn' hc' hL hL' hE

set_option maxRecDepth 100000 in
theorem slotsLoads_lifted (os : Os) (started : os.Started) (H : Type) (enc : TypeId × Value → H) :
    ReturnsInHanded {} Try.checked os 11 .any (Rows.slotsLoadsSpec.pre6 enc Try.prog Try.f11 Rows.slotsLoadsRow.domain false) (Rows.slotsLoadsSpec.post enc Try.prog Try.f11 false true false false) := by
  refine law_lifted (C := Try.checked) (tb := 4) started own_ laid_ (by kernel_rfl) Try.func11 ?_ rfl rfl (by kernel_rfl) (fun ds h => ?_)
    (ChangeSpec.witness6 (enc := enc) (C := Try.checked) false ⟨#[], #[.slice none 0 0, .slice none 0 0], []⟩ 8 (by kernel_rfl) (by kernel_rfl) (by kernel_rfl) (by kernel_rfl)) ?_
  · intro t ht
    have : t = 27 ∨ t = 27 := by simpa [Try.params11] using ht
    rcases this with rfl | rfl
    all_goals exact ⟨by kernel_rfl, of_decide_eq_true (by kernel_rfl)⟩
  · match ds, h with
    | [d0, d1], _ => rfl
  · intro W base args ds ps hval hA hlt
    exact slotsLoads_law W base args ds ps hval hA hlt

set_option maxHeartbeats 4000000 in
theorem slotsLoads_closed : joinedFacts Try.prog 11 Try.f11 Rows.slotsLoadsSpec Rows.slotsLoadsRow = true := by
  unfold joinedFacts
  repeat' (with_reducible refine and_intro ?_ ?_)
  · as_aux_lemma => kernel_rfl
  · exact laid_
  · exact mapsRowed_
  · as_aux_lemma => kernel_rfl
  · as_aux_lemma => kernel_rfl
  · as_aux_lemma => kernel_rfl
  · exact stops_
  · as_aux_lemma => kernel_rfl
  · exact stopKnobs_
  · as_aux_lemma => kernel_rfl
  · as_aux_lemma => kernel_rfl
  · as_aux_lemma => kernel_rfl
  · as_aux_lemma => kernel_rfl
  · as_aux_lemma => kernel_rfl
  · as_aux_lemma => kernel_rfl
  · as_aux_lemma => kernel_rfl
  · as_aux_lemma => kernel_rfl
  · as_aux_lemma => kernel_rfl
  · as_aux_lemma => kernel_rfl
  · as_aux_lemma => kernel_rfl
  · as_aux_lemma => kernel_rfl
  · as_aux_lemma => kernel_rfl
  · exact plainKeys_
  · as_aux_lemma => kernel_rfl
  · exact stopsHeard_
  · exact mayEnter_
  · exact liftsFinal_
  · exact make_
  · as_aux_lemma => kernel_rfl
  · as_aux_lemma => kernel_rfl
  · as_aux_lemma => kernel_rfl
  · as_aux_lemma => kernel_rfl

theorem slotsLoads_holds : Rows.SlotsLoadsSaid :=
  OpenClaim.holds_of_wide 11 Try.f11 rfl rfl rfl rfl rfl rfl rfl ⟨rfl, rfl, rfl, rfl, rfl⟩ rfl rfl rfl rfl rfl (by as_aux_lemma => kernel_rfl) Try.func11 slotsLoads_closed
    (of_decide_eq_true (by as_aux_lemma => kernel_rfl)) (by unfold Func.isWrapper; first | (rw [if_pos (by decide +kernel)]; kernel_rfl) | (rw [if_neg (by decide +kernel)]; exact ⟨rfl, rfl⟩))
    (fun os started H enc _ => slotsLoads_lifted os started H enc)
#print axioms slotsLoads_holds
end Go.Proofs.Ythbbjbcojhljfaa
