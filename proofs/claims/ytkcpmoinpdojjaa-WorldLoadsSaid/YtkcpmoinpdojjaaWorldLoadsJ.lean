import Derived.Test.YtkcpmoinpdojjaaWorldLoadsJ27
import Derived.Test.YtkcpmoinpdojjaaWorldLoadsJ30
import Derived.Test.YtkcpmoinpdojjaaWorldLoadsJ32
import Derived.Test.YtkcpmoinpdojjaaRows
/- The law WorldLoads returns true for every input. (printed by mk_wload.py) -/
namespace Go.Proofs.Ytkcpmoinpdojjaa
open Go Go.RowKit Go.ChangeShapes Go.WideShapes Go.ChangeAt

attribute [local go_sem] AllFrom.cons_eq AllFrom.nil_eq putF_nil putF_cons wantedL_none wantedL_some OpGoalT OpGoalV OpGoalQ OpGoalA OpGoalK YieldsR preF_nil preF_cons

theorem intCells_Row2 : IntCells Try.prog 51 := IntCells.struct Try.underlying51 (by kernel_rfl) (by
  intro f hf
  simp only [List.mem_toArray, List.mem_cons, List.not_mem_nil, or_false] at hf
  rcases hf with rfl | rfl
  · exact intCells_Handle
  · exact intCells_Beast)
theorem matches_zero (m : Int) : matchesB m 0 0 0 = true := by
  rw [matches_eq (by unfold InR; omega)]
  have h0 : ∀ j, bt 0 j = false := fun j => by simp [bt]
  simp [okTo, anyTo, h0]
theorem rowsM_zero (L : List Rw) : rowsM L 0 0 0 = L := by
  unfold rowsM
  exact List.filter_eq_self.2 fun x _ => matches_zero _

section
variable {A A2 : Option Addr} {c c2 : Nat} {gs : List Int} {rows : List Rw} {w : World}
theorem wload_any (hg : gs.length ≤ 9223372036854775807) (hr : rows.length ≤ 9223372036854775807) (hA : Lies w w.heap.size A (ints gs)) (hA2 : Lies w w.heap.size A2 (rows.flatMap rwC)) : Calls Try.prog 58 #[.slice A gs.length c, .slice A2 rows.length c2] w (WLPost gs rows w) := by
  by_cases h60 : rows.length ≤ 60
  · exact wload_in h60 hg hA hA2
  · exact wload_long (by omega) hr
theorem rwload_any (hg : gs.length ≤ 9223372036854775807) (hr : rows.length ≤ 9223372036854775807) (hA : Lies w w.heap.size A (ints gs)) (hA2 : Lies w w.heap.size A2 (rows.flatMap rwC)) : Calls Try.prog 59 #[.slice A gs.length c, .slice A2 rows.length c2] w (RWLPost gs rows w) := by
  by_cases h60 : rows.length ≤ 60
  · exact rwload_in h60 hg hA hA2
  · exact rwload_long (by omega) hr
theorem wload_bad (b : Nat) (w : World) (hc : w.cell? ⟨b, 0, none⟩ = some (.int .i64 (-1))) (hb : b < w.heap.size) :
    Calls Try.prog 58 #[.slice (some ⟨b, 0, none⟩) 1 1, .slice none 0 0] w fun e w' => e = .returned (.tuple #[.pointer none, .int .i64 1]) ∧ Below w.heap.size w w' := by
  have hA : Lies w w.heap.size (some ⟨b, 0, none⟩) (ints [-1]) := by
    intro j u hu
    cases j with
    | zero =>
      simp [ints] at hu
      subst hu
      exact ⟨_, rfl, hb, hc⟩
    | succ j => simp [ints] at hu
  have hE : wlE [-1] [] = 1 := by decide
  refine (wload_any (A := some ⟨b, 0, none⟩) (c := 1) (A2 := none) (c2 := 0) (gs := [-1]) (rows := []) (by simp) (by simp) hA (Lies.nil _ _ _)).mono ?_
  rintro e w' ⟨hB, ⟨h1, h2⟩ | ⟨h1, -⟩⟩
  · rw [hE] at h2; exact ⟨h2, hB⟩
  · rw [hE] at h1; cases h1
theorem wload_err (hg : gs.length ≤ 9223372036854775807) (hr : rows.length ≤ 9223372036854775807) (hA : Lies w w.heap.size A (ints gs)) (hA2 : Lies w w.heap.size A2 (rows.flatMap rwC)) (hE : wlE gs rows ≠ 0) : Calls Try.prog 58 #[.slice A gs.length c, .slice A2 rows.length c2] w fun e w' => e = .returned (.tuple #[.pointer none, .int .i64 (wlE gs rows)]) ∧ Below w.heap.size w w' := by
  refine (wload_any hg hr hA hA2).mono ?_
  rintro e w' ⟨hB, ⟨h1, h2⟩ | ⟨h1, -⟩⟩
  · exact ⟨h2, hB⟩
  · exact absurd h1 hE
theorem rwload_err (hg : gs.length ≤ 9223372036854775807) (hr : rows.length ≤ 9223372036854775807) (hA : Lies w w.heap.size A (ints gs)) (hA2 : Lies w w.heap.size A2 (rows.flatMap rwC)) (hE : wlE gs rows ≠ 0) : Calls Try.prog 59 #[.slice A gs.length c, .slice A2 rows.length c2] w fun e w' => e = .returned (.tuple #[.pointer none, .int .i64 (wlE gs rows)]) ∧ Below w.heap.size w w' := by
  refine (rwload_any hg hr hA hA2).mono ?_
  rintro e w' ⟨hB, ⟨h1, h2⟩ | ⟨h1, -⟩⟩
  · exact ⟨h2, hB⟩
  · exact absurd h1 hE
theorem wload_ok (hg : gs.length ≤ 9223372036854775807) (hr : rows.length ≤ 9223372036854775807) (hA : Lies w w.heap.size A (ints gs)) (hA2 : Lies w w.heap.size A2 (rows.flatMap rwC)) (hE : wlE gs rows = 0) : Calls Try.prog 58 #[.slice A gs.length c, .slice A2 rows.length c2] w fun e w' => ∃ p F, e = .returned (.tuple #[.pointer (some ⟨p, 0, none⟩), .int .i64 0]) ∧ RepW w' p (wlS gs rows) (wlL gs rows) F ∧ (∀ y ∈ F, w.heap.size ≤ y) ∧ Below w.heap.size w w' := by
  refine (wload_any hg hr hA hA2).mono ?_
  rintro e w' ⟨hB, ⟨h1, h2⟩ | ⟨h1, p, F, h2, h3, h4⟩⟩
  · exact absurd hE h1
  · exact ⟨p, F, h2, h3, h4, hB⟩
theorem rwload_ok (hg : gs.length ≤ 9223372036854775807) (hr : rows.length ≤ 9223372036854775807) (hA : Lies w w.heap.size A (ints gs)) (hA2 : Lies w w.heap.size A2 (rows.flatMap rwC)) (hE : wlE gs rows = 0) : Calls Try.prog 59 #[.slice A gs.length c, .slice A2 rows.length c2] w fun e w' => ∃ p F, e = .returned (.tuple #[.pointer (some ⟨p, 0, none⟩), .int .i64 0]) ∧ RepZ (.slice none 0 0) w' p (wlS gs rows) (wlL gs rows) F ∧ (∀ y ∈ F, w.heap.size ≤ y) ∧ Below w.heap.size w w' := by
  refine (rwload_any hg hr hA hA2).mono ?_
  rintro e w' ⟨hB, ⟨h1, h2⟩ | ⟨h1, p, F, h2, h3, h4⟩⟩
  · exact absurd hE h1
  · exact ⟨p, F, h2, h3, h4, hB⟩

set_option maxRecDepth 100000 in
set_option maxHeartbeats 4000000 in
theorem worldLoads_err (d K a0 a1 a2 a3 a4 a5 a6 a7 s g ts tg kd n : Int) (hg : gs.length ≤ 9223372036854775807) (hr : rows.length ≤ 9223372036854775807) (hA : Lies w w.heap.size A (ints gs)) (hA2 : Lies w w.heap.size A2 (rows.flatMap rwC)) (hE : wlE gs rows ≠ 0) :
    Calls Try.prog 12 #[.slice A gs.length c, .slice A2 rows.length c2, .agg #[.int .i64 d, .int .i64 K, .int .i64 a0, .int .i64 a1, .int .i64 a2, .int .i64 a3, .int .i64 a4, .int .i64 a5, .int .i64 a6, .int .i64 a7, .int .i64 s, .int .i64 g, .int .i64 ts, .int .i64 tg, .int .i64 kd, .int .i64 n]] w fun e w' => e = .returned (.bool true) ∧ Below w.heap.size w w' := by
  obtain ⟨w0, hw0, hb0, hz0, hs0⟩ := box1 w (.cells #[.int .i64 d, .int .i64 K, .int .i64 a0, .int .i64 a1, .int .i64 a2, .int .i64 a3, .int .i64 a4, .int .i64 a5, .int .i64 a6, .int .i64 a7, .int .i64 s, .int .i64 g, .int .i64 ts, .int .i64 tg, .int .i64 kd, .int .i64 n] 74)
  have h1 := wload_err (c := c) (c2 := c2) (w := w0) hg hr ((hA.below hb0).mono hb0.size) ((hA2.below hb0).mono hb0.size) hE
  have h2 := fun w1 (hb : Below w.heap.size w w1) => rwload_err (c := c) (c2 := c2) (w := w1) hg hr ((hA.below hb).mono hb.size) ((hA2.below hb).mono hb.size) hE
  generalize wlE gs rows = E at *
  have H1 := Lib.hid h1; have H2 := Lib.hid h2; have Hb0 := Lib.hid hb0
  clear h1 h2 hb0
  clear hA hA2 hE hg hr hs0 hz0
  go_enter Try.func12, Try.ntmps12
  go_wp2_with fail
  clear hw0
  refine H1.out.mono ?_
  rintro e w1 ⟨rfl, hb1⟩
  have hb1' := Hb0.out.trans (hb1.mono Hb0.out.size)
  have h2 := H2.out w1 hb1'
  have H2' := Lib.hid h2; have HB1 := Lib.hid hb1'
  clear h2 hb1 hb1' H1 H2
  go_wp2_with fail
  refine H2'.out.mono ?_
  rintro e w2 ⟨rfl, hb2⟩
  have HB2 := Lib.hid (HB1.out.trans (hb2.mono HB1.out.size))
  clear hb2 H2' HB1
  go_wp2_with fail
  refine (wload_bad w2.heap.size _ (by simp) (by simp)).mono ?_
  rintro e w3 ⟨rfl, hb3⟩
  have HB3 := Lib.hid ((HB2.out.alloc HB2.out.size _).trans (hb3.mono (by have := HB2.out.size; simp; omega)))
  clear hb3 HB2
  go_wp2
  go_ret
  exact ⟨rfl, HB3.out⟩

/-- The last comparison: what is known of the generations that were copied. -/
structure IWL (w0 : World) (l : List Int) (L : Nat → Bool) (σ : Nat → Value) (V : World) : Prop where
  b : Below w0.heap.size w0 V
  a18 : L 18 = true → V.ownsRow 0 3 1 (σ 18) l.length (ints l)
theorem IWL.start {w0 V : World} {l : List Int} {σ : Nat → Value} (h : Below w0.heap.size w0 V) : IWL w0 l (fun _ => false) σ V := ⟨h, fun e => (by cases e)⟩
theorem IWL.read {w0 V : World} {l : List Int} {L : Nat → Bool} {σ : Nat → Value} (h : IWL w0 l L σ V) {i : Nat} (hi : 18 ≠ i) (v : Value) : IWL w0 l (upd L i) (updv σ i v) V := by
  have eL : upd L i 18 = L 18 := by unfold upd; simp [hi]
  have es : updv σ i v 18 = σ 18 := by unfold updv; rw [if_neg hi]
  exact ⟨h.b, by rw [eL, es]; exact h.a18⟩
theorem IWL.turn {w0 V V' : World} {l : List Int} {L : Nat → Bool} {σ : Nat → Value} (h : IWL w0 l L σ V) {i : Nat} (hi : 18 ≠ i) (v : Value) (hb : Below V.heap.size V V') : IWL w0 l (upd L i) (updv σ i v) V' := by
  have eL : upd L i 18 = L 18 := by unfold upd; simp [hi]
  have es : updv σ i v 18 = σ 18 := by unfold updv; rw [if_neg hi]
  exact ⟨h.b.trans (hb.mono h.b.size), by rw [eL, es]; exact fun e => row_mod (h.a18 e) (Mod.ofBelow hb) (by simp)⟩
theorem IWL.gens {w0 V V' : World} {l : List Int} {L : Nat → Bool} {σ : Nat → Value} (h : IWL w0 l L σ V) (v : Value) (hb : Below V.heap.size V V') (hv : V'.ownsRow 0 3 1 v l.length (ints l)) : IWL w0 l (upd L 18) (updv σ 18 v) V' :=
  ⟨h.b.trans (hb.mono h.b.size), fun _ => by simpa [updv] using hv⟩

set_option maxRecDepth 100000 in
set_option maxHeartbeats 8000000 in
theorem worldLoads_ok (d K a0 a1 a2 a3 a4 a5 a6 a7 s g ts tg kd n : Int) (hg : gs.length ≤ 9223372036854775807) (hr : rows.length ≤ 9223372036854775807) (hA : Lies w w.heap.size A (ints gs)) (hA2 : Lies w w.heap.size A2 (rows.flatMap rwC)) (hE : wlE gs rows = 0) :
    Calls Try.prog 12 #[.slice A gs.length c, .slice A2 rows.length c2, .agg #[.int .i64 d, .int .i64 K, .int .i64 a0, .int .i64 a1, .int .i64 a2, .int .i64 a3, .int .i64 a4, .int .i64 a5, .int .i64 a6, .int .i64 a7, .int .i64 s, .int .i64 g, .int .i64 ts, .int .i64 tg, .int .i64 kd, .int .i64 n]] w fun e w' => e = .returned (.bool true) ∧ Below w.heap.size w w' := by
  obtain ⟨w0, hw0, hb0, hz0, hs0⟩ := box1 w (.cells #[.int .i64 d, .int .i64 K, .int .i64 a0, .int .i64 a1, .int .i64 a2, .int .i64 a3, .int .i64 a4, .int .i64 a5, .int .i64 a6, .int .i64 a7, .int .i64 s, .int .i64 g, .int .i64 ts, .int .i64 tg, .int .i64 kd, .int .i64 n] 74)
  have h1 := wload_ok (c := c) (c2 := c2) (w := w0) hg hr ((hA.below hb0).mono hb0.size) ((hA2.below hb0).mono hb0.size) hE
  have h2 := fun w1 (hb : Below w.heap.size w w1) => rwload_ok (c := c) (c2 := c2) (w := w1) hg hr ((hA.below hb).mono hb.size) ((hA2.below hb).mono hb.size) hE
  generalize wlS gs rows = sl at *
  generalize wlL gs rows = L at *
  have H1 := Lib.hid h1; have H2 := Lib.hid h2; have Hb0 := Lib.hid hb0; have Hz0 := Lib.hid hz0; have Hs0 := Lib.hid hs0
  clear h1 h2 hb0 hz0 hs0
  clear hA hA2 hE hg hr
  go_enter Try.func12, Try.ntmps12
  go_wp2_with fail
  clear hw0
  refine H1.out.mono ?_
  rintro e w1 ⟨p, F, rfl, hW, hF, hb1⟩
  have hb1' := Hb0.out.trans (hb1.mono Hb0.out.size)
  have hz1 := (Mod.ofBelow hb1).keep Hz0.out (by simp)
  have h2 := H2.out w1 hb1'
  have H2' := Lib.hid h2
  have HB1 := Lib.hid hb1'; have HW := Lib.hid hW; have HF := Lib.hid hF; have Hz1 := Lib.hid hz1
  clear hb1' hW hF hz1
  clear h2 hb1 H1 H2
  go_wp2_with fail
  refine H2'.out.mono ?_
  rintro e w2 ⟨q, G, rfl, hR, hG, hb2⟩
  have hP := pz_loaded (B := w.heap.size) HW.out (fun y hy => by have := HF.out y hy; have := Hs0.out; omega) HB1.out.size hb2 hR hG
  have hz2 := (Mod.ofBelow hb2).keep Hz1.out (by simp)
  have HB2 := Lib.hid (HB1.out.trans (hb2.mono HB1.out.size))
  have HP := Lib.hid hP; have Hz2 := Lib.hid hz2
  clear hP hz2
  clear hb2 H2' HB1 HW HF hR hG Hz1 Hz0
  obtain ⟨w3, hw3⟩ : ∃ w3, w2.alloc (.cells #[.int .i64 (-1)] 3) = w3 := ⟨_, rfl⟩
  have hb3 : Below w2.heap.size w2 w3 := by rw [← hw3]; exact (Below.refl _ _).alloc (Nat.le_refl _) _
  have hc3 : w3.cell? ⟨w2.heap.size, 0, none⟩ = some (.int .i64 (-1)) := by rw [← hw3]; simp
  have hl3 : w2.heap.size < w3.heap.size := by rw [← hw3]; simp
  have H3 := Lib.hid (wload_bad w2.heap.size w3 hc3 hl3)
  have Hb3 := Lib.hid hb3
  clear hb3
  clear hc3 hl3
  go_wp2_with fail
  clear hw3
  refine H3.out.mono ?_
  rintro e w4 ⟨rfl, hb4⟩
  have hb24 : Below w2.heap.size w2 w4 := Hb3.out.trans (hb4.mono Hb3.out.size)
  have hP4 := pz_below HP.out hb24
  have hz4 := (Mod.ofBelow hb24).keep Hz2.out (by simp)
  have HB4 := Lib.hid (HB2.out.trans hP4.2.1)
  have H5 := Lib.hid (did_any hP4.1 d K a0 a1 a2 a3 a4 a5 a6 a7 s g ts tg kd n)
  clear hb4 hb24 HB2 HP Hz2 H3 Hb3 hP4
  have c0 := blk_cell hz4 0
  have c1 := blk_cell hz4 1
  have c2 := blk_cell hz4 2
  have c3 := blk_cell hz4 3
  have c4 := blk_cell hz4 4
  have c5 := blk_cell hz4 5
  have c6 := blk_cell hz4 6
  have c7 := blk_cell hz4 7
  have c8 := blk_cell hz4 8
  have c9 := blk_cell hz4 9
  have c10 := blk_cell hz4 10
  have c11 := blk_cell hz4 11
  have c12 := blk_cell hz4 12
  have c13 := blk_cell hz4 13
  have c14 := blk_cell hz4 14
  have c15 := blk_cell hz4 15
  simp only [List.getElem?_toArray, List.getElem?_cons_zero, List.getElem?_cons_succ] at c0 c1 c2 c3 c4 c5 c6 c7 c8 c9 c10 c11 c12 c13 c14 c15
  have cl := blk_lt hz4
  clear hz4
  go_wp2_with fail
  clear c0 c1 c2 c3 c4 c5 c6 c7 c8 c9 c10 c11 c12 c13 c14 c15 cl
  refine H5.out.mono ?_
  rintro e w5 ⟨rfl, ⟨sl5, L5, h5⟩, hb5, -⟩
  have HB5 := Lib.hid (HB4.out.trans hb5)
  have h6 := pz_wrows h5 0 0 0
  rw [show qcheck 0 0 0 = 0 by decide, if_pos rfl, rowsM_zero] at h6
  have H6 := Lib.hid h6
  have HO := Lib.hid h5.ok
  clear hb5 HB4 H5 h5 h6
  go_wp2_with fail
  refine H6.out.mono ?_
  rintro e w6 ⟨vr, rfl, ho6, -, h6, hb6, -⟩
  have HB6 := Lib.hid (HB5.out.trans hb6)
  obtain ⟨hpl, ps, FS, hcp, hS⟩ := pz_slots h6
  obtain ⟨vg, vl, A6, cap6, hq6, hrow6, -⟩ : ∃ vg vl A cap, w6.heap[q]? = some (.cells #[vg, vl, .slice A L5.length cap, .slice none 0 0] 72 (0, 0)) ∧ w6.ownsRow 0 51 11 (.slice A L5.length cap) L5.length (L5.flatMap rwC) ∧ True := by
    obtain ⟨F6, G6, h6'⟩ := h6
    obtain ⟨vg, vl, A, cap, a1, a2, -⟩ := RepZ.open2 h6'.b
    exact ⟨vg, vl, A, cap, a1, a2, trivial⟩
  obtain ⟨-, vg', hcg', hg6⟩ := pz_gens h6
  have hgg : vg' = vg := by
    have e0 := blk_cell hq6 0
    simp only [List.getElem?_toArray, List.getElem?_cons_zero] at e0
    rw [e0] at hcg'; cases hcg'; rfl
  subst hgg
  have hg60 : sl5.length ≤ 60 := HO.out.ok.1
  have hl60 : L5.length ≤ 1200000000000 := by have := HO.out.len; omega
  have hgl := gensS_len sl5
  rw [← hgl] at hg6 hg60
  generalize hgg : gensS sl5 = gg at *
  have hS' := HO.out.ok.1
  have Ho6 := Lib.hid ho6; have HS := Lib.hid hS; have Hq6 := Lib.hid hq6; have Hrow6 := Lib.hid hrow6; have Hg6 := Lib.hid hg6; have HL60 := Lib.hid hg60; have HLL := Lib.hid hl60; have HGL := Lib.hid hgl; have HCP := Lib.hid hcp; have HPL := Lib.hid hpl; have HS5 := Lib.hid hS'; have HGG := Lib.hid hgg
  clear ho6 hS hq6 hrow6 hg6 hg60 hl60 hgl hcp hpl hS' hgg
  clear h6 hb6 HB5 H6 hcg'
  go_wp2_with fail
  refine wp_planK [18] 24 [0] [some 59, some 60, some 61, some 62, some 63, some 64, some 65, some 66, some 67, some 68, some 69, some 70, some 71, some 72, some 73, some 74, some 75, some 76, some 77, some 78, some 79, some 80, some 81, some 82, some 83, some 84, some 6] [[], [0], [0, 1], [0, 1, 2], [0, 1, 2, 3], [0, 1, 2, 3, 4], [0, 1, 2, 3, 4, 5], [0, 1, 2, 3, 4, 5], [0, 1, 2, 3, 4, 5, 7], [0, 1, 2, 3, 4, 5, 7, 8], [0, 1, 2, 3, 4, 5, 7, 8, 9], [0, 1, 2, 3, 4, 5, 6, 7, 8, 9, 10], [0, 1, 2, 3, 4, 5, 6, 7, 8, 9, 10, 11], [0, 1, 2, 3, 4, 5, 6, 7, 8, 9, 10, 11, 12], [0, 1, 2, 3, 4, 5, 6, 7, 8, 9, 10, 11, 12, 13], [0, 1, 2, 3, 4, 5, 6, 7, 8, 9, 10, 11, 12, 13, 14], [0, 1, 2, 3, 4, 5, 6, 7, 8, 9, 10, 11, 12, 13, 14, 15], [0, 1, 2, 3, 4, 5, 6, 7, 8, 9, 10, 11, 12, 13, 14, 15, 16], [0, 1, 2, 3, 4, 5, 6, 7, 8, 9, 10, 11, 12, 13, 14, 15, 16, 17], [0, 1, 2, 3, 4, 5, 6, 7, 8, 9, 10, 11, 12, 13], [0, 1, 2, 3, 4, 5, 6, 7, 8, 9, 10, 11, 12, 13, 19], [0, 1, 2, 3, 4, 5, 6, 7, 8, 9, 10, 11, 12, 13, 19, 20], [0, 1, 2, 3, 4, 5, 6, 7, 8, 9, 10, 11, 12, 13, 19, 20, 21], [0, 1, 2, 3, 4, 5, 6, 7, 8, 9, 10, 11, 12, 13, 19, 20, 21, 22], [0, 1, 2, 3, 4, 5, 6, 7, 8, 9, 10, 11, 12, 13, 14, 15, 16, 17, 18, 19, 20, 21, 22, 23], [0, 1, 2, 3, 4, 5, 6, 7, 8, 9, 10, 11, 12, 13, 14, 15, 16, 17, 18, 19, 20, 21, 22, 23, 24], [0, 1, 2, 3, 4, 5, 6, 7, 8, 9, 10, 11, 12, 13, 14, 15, 16, 17, 18, 19, 20, 21, 22, 23, 24, 25]] [0, 1, 2, 3, 4, 5, 6, 7, 8, 9, 10, 11, 12, 13, 14, 15, 16, 17, 18, 19, 20, 21, 22, 23] (fun Lf σ V => IWL w6 gg Lf σ V) mixed rfl (by kernel_rfl) (by decide) (by decide) (by decide) (IWL.start below_drew) rfl ?_
  iterate 24 apply Exists.intro
  refine ⟨rfl, ?_, ?_⟩
  · simp only [List.take_succ_cons, List.take_zero, AllFrom.cons_eq, AllFrom.nil_eq, OpGoalK]
    refine ⟨?_, ?_, ?_, ?_, ?_, ?_, ?_, ?_, ?_, ?_, ?_, ?_, ?_, ?_, ?_, ?_, ?_, ?_, ?_, ?_, ?_, ?_, ?_, ?_, trivial⟩
    all_goals (intro L' σ V h1 h2 h3 hI hp; have HA1 := Lib.hid h1; have HA2 := Lib.hid h2; have HA3 := Lib.hid h3; clear h1 h2 h3; (try simp only [List.getD_cons_zero, List.getD_cons_succ, preK_cons, preK_nil] at hp); (try simp only [List.mem_cons, List.not_mem_nil, or_false, eq_self, Nat.reduceEqDiff, Nat.reduceAdd, Nat.zero_add, false_or, true_or, true_and, and_true] at hp); (first | (have hq : True := hp; clear hq hp) | skip); have HI := Lib.hid hI; clear hI)
    all_goals (
      have hqV := (Mod.ofBelow HI.out.b).keep Hq6.out (by simp)
      have hcV := (HI.out.b.cell (p := ⟨p, 0, none⟩) HPL.out).trans HCP.out
      have hpV := Nat.lt_of_lt_of_le HPL.out HI.out.b.size
      have u0 := blk_cell hqV 0
      have u1 := blk_cell hqV 1
      have u2 := blk_cell hqV 2
      have u3 := blk_cell hqV 3
      simp only [List.getElem?_toArray, List.getElem?_cons_zero, List.getElem?_cons_succ] at u0 u1 u2 u3
      have ul := blk_lt hqV
      clear hqV)
    · (go_simp; exact ⟨.inr rfl, HI.out.read (by decide) _⟩)
    · (go_simp; exact ⟨.inr rfl, HI.out.read (by decide) _⟩)
    · (go_simp; exact ⟨.inr rfl, HI.out.read (by decide) _⟩)
    · (go_simp; exact ⟨.inr rfl, HI.out.read (by decide) _⟩)
    · (go_simp; exact ⟨.inr rfl, HI.out.read (by decide) _⟩)
    · (go_simp; exact ⟨.inr rfl, HI.out.read (by decide) _⟩)
    · (go_simp; exact ⟨.inr rfl, HI.out.read (by decide) _⟩)
    · (go_simp; exact ⟨.inr rfl, HI.out.read (by decide) _⟩)
    · (go_simp; exact ⟨.inr rfl, HI.out.read (by decide) _⟩)
    · (go_simp; exact ⟨.inr rfl, HI.out.read (by decide) _⟩)
    · (go_simp; exact ⟨.inr rfl, HI.out.read (by decide) _⟩)
    · go_simp
      refine (eqRow_rows L5 vr (.slice A6 L5.length cap6) V HLL.out (row_mod Ho6.out (Mod.ofBelow HI.out.b) (by simp)) (row_mod Hrow6.out (Mod.ofBelow HI.out.b) (by simp))).mono ?_
      rintro e V' ⟨rfl, hb⟩
      exact ⟨_, rfl, .inr rfl, HI.out.turn (by decide) _ hb⟩
    · (go_simp; exact ⟨.inr rfl, HI.out.read (by decide) _⟩)
    · (go_simp; exact ⟨.inr rfl, HI.out.read (by decide) _⟩)
    · (go_simp; exact ⟨.inr rfl, HI.out.read (by decide) _⟩)
    · (go_simp; exact ⟨.inr rfl, HI.out.read (by decide) _⟩)
    · (go_simp; exact ⟨.inr rfl, HI.out.read (by decide) _⟩)
    · (go_simp; exact ⟨.inr rfl, HI.out.read (by decide) _⟩)
    · go_simp
      refine (gens_any ps sl5 FS V (HS.out.mod (Mod.ofBelow HI.out.b) (by simp)) HS5.out).mono ?_
      rintro e V' ⟨v, rfl, hv, hb⟩
      rw [HGG.out] at hv
      exact ⟨_, rfl, PostK.mk (c := undef) (.inl (by decide)) (HI.out.gens v hb (row_base hv (fun k _ => Nat.zero_le k)))⟩
    · (go_simp; exact ⟨.inr rfl, HI.out.read (by decide) _⟩)
    · (go_simp; exact ⟨.inr rfl, HI.out.read (by decide) _⟩)
    · (go_simp; exact ⟨.inr rfl, HI.out.read (by decide) _⟩)
    · (go_simp; exact ⟨.inr rfl, HI.out.read (by decide) _⟩)
    · (go_simp; exact ⟨.inr rfl, HI.out.read (by decide) _⟩)
  · intro L' σ V h1 hI hp
    have h18 := hI.a18 (h1 18 (by decide))
    have hgV := row_mod Hg6.out (Mod.ofBelow hI.b) (by simp)
    have hbV := hI.b
    clear h1 hI
    simp only [preK_cons, preK_nil, List.getD_cons_zero, List.getD_cons_succ] at hp; simp only [List.mem_cons, List.not_mem_nil, or_false, eq_self, Nat.reduceEqDiff, false_or, true_or, true_and, and_true] at hp
    have hE := eqIntRows_any gg (σ 18) vg' V HL60.out h18 hgV
    have hB7 := HB6.out.trans (hbV.mono (by have := HB6.out.size; exact this))
    have HE := Lib.hid hE; have HB7 := Lib.hid hB7
    clear hE hB7
    clear h18 hgV hbV
    simp only [List.drop_succ_cons, List.drop_zero]
    go_simp
    clear hp
    go_wp2_with fail
    refine HE.out.mono ?_
    rintro e V' ⟨rfl, hb⟩
    have HB8 := Lib.hid (HB7.out.trans (hb.mono HB7.out.size))
    clear hb
    go_wp2
    refine ⟨rfl, ?_⟩
    go_wp2
    go_ret
    exact ⟨rfl, HB8.out⟩
  all_goals exact undef

theorem worldLoads_any (d K a0 a1 a2 a3 a4 a5 a6 a7 s g ts tg kd n : Int) (hg : gs.length ≤ 9223372036854775807) (hr : rows.length ≤ 9223372036854775807) (hA : Lies w w.heap.size A (ints gs)) (hA2 : Lies w w.heap.size A2 (rows.flatMap rwC)) :
    Calls Try.prog 12 #[.slice A gs.length c, .slice A2 rows.length c2, .agg #[.int .i64 d, .int .i64 K, .int .i64 a0, .int .i64 a1, .int .i64 a2, .int .i64 a3, .int .i64 a4, .int .i64 a5, .int .i64 a6, .int .i64 a7, .int .i64 s, .int .i64 g, .int .i64 ts, .int .i64 tg, .int .i64 kd, .int .i64 n]] w fun e w' => e = .returned (.bool true) ∧ Below w.heap.size w w' := by
  by_cases hE : wlE gs rows = 0
  · exact worldLoads_ok d K a0 a1 a2 a3 a4 a5 a6 a7 s g ts tg kd n hg hr hA hA2 hE
  · exact worldLoads_err d K a0 a1 a2 a3 a4 a5 a6 a7 s g ts tg kd n hg hr hA hA2 hE
end

set_option maxRecDepth 100000 in
theorem worldLoads_law {H : Type} {enc : TypeId × Value → H} (W : World) (base : Nat) (args : Array Value) (ds : List (DataW H)) (ps : List MemPlace)
    (hval : ∀ (j : Nat) t v, Try.f12.params[j]? = some t → args[j]? = some v → Value.okWide Try.prog W .any base t v)
    (hA : DataW.TrodAll enc Try.prog W 0 (fun _ => true) true Try.f12.params.toList args.toList ds ps) (hlt : ∀ p ∈ ps, p.block < W.heap.size)
    (hsz : ∀ (j : Nat) t d, Try.f12.params.toList[j]? = some t → ds[j]? = some d → ∀ m ∈ d.weights Try.prog t, m ≤ reachBytes) :
    Calls Try.prog 12 args W fun e W' => e = .returned (.bool true) ∧ Below W.heap.size W W' := by
  rw [Try.params12] at hA hval hsz
  obtain ⟨v0, v1, v2, d0, d1, d2, p0, p1, p2, rfl, rfl, rfl, h0, h1, h2⟩ := trodAll_three hA
  obtain ⟨A, n, c, gs, rfl, hnc, hc, hl, -, hL⟩ := open_slice_flat Try.underlying55 intCells_int (k := 1) (by kernel_rfl) (by omega) (hval 0 55 v0 rfl rfl) h0 (fun p hp => hlt p (by simp [hp]))
  obtain rfl : n = gs.length := by omega
  have hs0 := slice_size Try.underlying55 h0 (hsz 0 55 d0 rfl rfl)
  rw [show Try.prog.bytesOf 3 = 8 by kernel_rfl, reach_val] at hs0
  obtain ⟨A', n', c', zs, rfl, hnc', hc', hlen, -, hL'⟩ := open_slice_flat Try.underlying41 intCells_Row2 (k := 11) (by kernel_rfl) (by omega) (hval 1 41 v1 rfl rfl) h1 (fun p hp => hlt p (by simp [hp]))
  obtain ⟨rows, hl', rfl⟩ := unflat rwI 11 rwI_mk n' zs hlen
  have hs1 := slice_size Try.underlying41 h1 (hsz 1 41 d1 rfl rfl)
  rw [show Try.prog.bytesOf 51 = 88 by kernel_rfl, reach_val] at hs1
  rw [show ints (rows.flatMap rwI) = rows.flatMap rwC by unfold ints rwC; rw [List.map_flatMap]; rfl] at hL'
  subst hl'
  obtain ⟨cs, rfl, -⟩ := okWide_struct Try.underlying74 (hval 2 74 v2 rfl rfl)
  obtain ⟨ys, rfl, hy, -⟩ := open_flat intCells_Op h2
  have hy : ys.length = 16 := hy.trans (by kernel_rfl)
  match ys, hy with
  | [d, K, a0, a1, a2, a3, a4, a5, a6, a7, s, g, ts, tg, kd, n], _ => exact worldLoads_any d K a0 a1 a2 a3 a4 a5 a6 a7 s g ts tg kd n (by omega) (by omega) hL hL'

set_option maxRecDepth 100000 in
theorem worldLoads_lifted (os : Os) (started : os.Started) (H : Type) (enc : TypeId × Value → H) :
    ReturnsInHanded {} Try.checked os 12 .any (Rows.worldLoadsSpec.pre6 enc Try.prog Try.f12 Rows.worldLoadsRow.domain false) (Rows.worldLoadsSpec.post enc Try.prog Try.f12 false true false false) := by
  refine law_lifted_sized (C := Try.checked) (tb := 4) started own_ laid_ (by kernel_rfl) Try.func12 ?_ rfl rfl (by kernel_rfl) (fun ds h => ?_)
    (ChangeSpec.witness6 (enc := enc) (C := Try.checked) false ⟨#[], #[.slice none 0 0, .slice none 0 0, .agg #[.int .i64 0, .int .i64 0, .int .i64 0, .int .i64 0, .int .i64 0, .int .i64 0, .int .i64 0, .int .i64 0, .int .i64 0, .int .i64 0, .int .i64 0, .int .i64 0, .int .i64 0, .int .i64 0, .int .i64 0, .int .i64 0]], []⟩ 8 (by kernel_rfl) (by kernel_rfl) (by kernel_rfl) (by kernel_rfl)) ?_
  · intro t ht
    have : t = 55 ∨ t = 41 ∨ t = 74 := by simpa [Try.params12] using ht
    rcases this with rfl | rfl | rfl
    all_goals exact ⟨by kernel_rfl, of_decide_eq_true (by kernel_rfl)⟩
  · match ds, h with
    | [d0, d1, d2], _ => rfl
  · intro W base args ds ps hval hA hlt hsz
    exact worldLoads_law W base args ds ps hval hA hlt hsz

set_option maxHeartbeats 4000000 in
theorem worldLoads_closed : joinedFacts Try.prog 12 Try.f12 Rows.worldLoadsSpec Rows.worldLoadsRow = true := by
  unfold joinedFacts
  repeat' (with_reducible refine and_intro ?_ ?_)
  · as_aux_lemma => kernel_rfl
  · exact laid_
  · exact mapsRowed_
  · as_aux_lemma => kernel_rfl
  · as_aux_lemma => kernel_rfl
  · as_aux_lemma => kernel_rfl
  · exact stops_
  · as_aux_lemma => kernel_rfl
  · exact stopKnobs_
  · as_aux_lemma => kernel_rfl
  · as_aux_lemma => kernel_rfl
  · as_aux_lemma => kernel_rfl
  · as_aux_lemma => kernel_rfl
  · as_aux_lemma => kernel_rfl
  · as_aux_lemma => kernel_rfl
  · as_aux_lemma => kernel_rfl
  · as_aux_lemma => kernel_rfl
  · as_aux_lemma => kernel_rfl
  · as_aux_lemma => kernel_rfl
  · as_aux_lemma => kernel_rfl
  · as_aux_lemma => kernel_rfl
  · as_aux_lemma => kernel_rfl
  · exact plainKeys_
  · as_aux_lemma => kernel_rfl
  · exact stopsHeard_
  · exact mayEnter_
  · exact liftsFinal_
  · exact make_
  · as_aux_lemma => kernel_rfl
  · as_aux_lemma => kernel_rfl
  · as_aux_lemma => kernel_rfl
  · as_aux_lemma => kernel_rfl

theorem worldLoads_holds : Rows.WorldLoadsSaid :=
  OpenClaim.holds_of_wide 12 Try.f12 rfl rfl rfl rfl rfl rfl rfl ⟨rfl, rfl, rfl, rfl, rfl⟩ rfl rfl rfl rfl rfl (by as_aux_lemma => kernel_rfl) Try.func12 worldLoads_closed
    (of_decide_eq_true (by as_aux_lemma => kernel_rfl)) (by unfold Func.isWrapper; first | (rw [if_pos (by decide +kernel)]; kernel_rfl) | (rw [if_neg (by decide +kernel)]; exact ⟨rfl, rfl⟩))
    (fun os started H enc _ => worldLoads_lifted os started H enc)
#print axioms worldLoads_holds
end Go.Proofs.Ytkcpmoinpdojjaa
