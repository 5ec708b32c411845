import Derived.Test.YtfbcdblgfhekpaaDiffAppliesJ12
/- Rows that may be: the reference's RowsMay. (printed by mk_df1.py) -/
namespace Go.Proofs.Ytfbcdblgfhekpaa
open Go Go.RowKit
attribute [local go_sem] AllFrom.cons_eq AllFrom.nil_eq putF_nil putF_cons wantedL_none wantedL_some OpGoalT OpGoalV OpGoalQ OpGoalA OpGoalK YieldsR preF_nil preF_cons
set_option maxRecDepth 100000 in
set_option maxHeartbeats 8000000 in
theorem rmay_any (A : Option Addr) (c : Nat) (l : List Rw) (w : World) (hl : l.length ≤ 9223372036854775807) (hA : Lies w w.heap.size A (l.flatMap rwC)) :
    Calls Try.prog 19 #[.slice A l.length c] w (BoolPost (mayB l) w) := by
  have HA := Lib.hid hA
  clear hA
  go_enter Try.func19, Try.ntmps19
  go_wp2_with fail
  go_loopw [7] (fun i wr => ∃ n : Nat, n ≤ l.length ∧ i = .int .i64 n ∧ (∀ j, j < n → okAt l j = true) ∧ Below w.heap.size w wr) (fun i _ => l.length - (intOf i).toNat)
  case atStart => exact ⟨0, by omega, rfl, fun j hj => by omega, Below.refl _ _⟩
  case round =>
    obtain ⟨n, hn, rfl, hno, hB⟩ := hrel
    have hsz := hB.size
    by_cases hlt : n < l.length
    · obtain ⟨ab, ao, rfl, hal, hc⟩ := HA.out.rec_at rwC_len (by omega) hlt
      have hq : ∀ j u, (rwC l[n])[j]? = some u → wr.cell? ((⟨ab, ao + n * 11, none⟩ : Addr).add j) = some u := fun j u hu => (hB.cell (p := (⟨ab, ao + n * 11, none⟩ : Addr).add j) (by rw [add_block]; exact hal)).trans (by first | exact hc j u hu | (have := hc j u hu; rw [Addr.add_mid]; exact this))
      have hni : (n : Int) < (l.length : Int) := by omega
      have hoa := okAt_eq l n hlt
      have hpre : ∀ k', n = k' + 1 → ∃ p : Int, prevB l n l[n].1.1 = decide (p < l[n].1.1) ∧ wr.cell? ⟨ab, ao + k' * 11, none⟩ = some (.int .i64 p) ∧ ab < wr.heap.size := by
        intro k' e
        have hk' : k' < l.length := by omega
        obtain ⟨ab', ao', e', hal', hc'⟩ := HA.out.rec_at rwC_len (by omega) hk'
        cases e'
        refine ⟨l[k'].1.1, ?_, ?_, Nat.lt_of_lt_of_le hal hsz⟩
        · subst e
          unfold prevB
          simp only [List.getElem?_eq_getElem hk']
        · have h0 := hc' 0 (.int .i64 l[k'].1.1) rfl
          have h1 := (hB.cell (p := ⟨ab, ao + k' * 11, none⟩) hal).trans (by first | exact h0 | (rw [Addr.add_mid] at h0; exact h0) | (simpa [Addr.add] using h0))
          exact h1
      have hp0 : n = 0 → prevB l n l[n].1.1 = true := fun e => by subst e; rfl
      obtain ⟨x, hx⟩ : ∃ x, l[n] = x := ⟨_, rfl⟩
      rw [hx] at hq hoa hpre hp0
      obtain ⟨⟨s, g⟩, K, a0, a1, a2, a3, a4, a5, a6, a7⟩ := x
      simp only at hoa hpre hp0
      rw [show beastZ (K, a0, a1, a2, a3, a4, a5, a6, a7) = beastE K [a0, a1, a2, a3, a4, a5, a6, a7] from rfl] at hoa
      obtain ⟨w3, hw3, hb3, hz3, hs3⟩ := box1 wr (.cells #[.int .i64 s, .int .i64 g, .int .i64 K, .int .i64 a0, .int .i64 a1, .int .i64 a2, .int .i64 a3, .int .i64 a4, .int .i64 a5, .int .i64 a6, .int .i64 a7] 33)
      have hb03 := hB.trans (hb3.mono hsz)
      have HO := Lib.hid (rwC_one ((s, g), K, a0, a1, a2, a3, a4, a5, a6, a7))
      have hq3 := fun (n1 : Nat) (h : ab < wr.heap.size) (p : Int) (hc : wr.cell? ⟨ab, n1, none⟩ = some (.int .i64 p)) => (hb3.cell (p := ⟨ab, n1, none⟩) h).trans hc
      have HP := Lib.hid hq; have Hz3 := Lib.hid hz3; have Hb03 := Lib.hid hb03; have Hw3 := Lib.hid hw3; have Hn0 := Lib.hid hno; have Hs3 := Lib.hid hs3
      clear hq hz3 hb03 hw3 hno hs3
      clear hB hx hc hb3
      cases e1 : withinB s 0 59 with
      | false =>
        have Hno := Lib.hid (mayB_no hlt (by rw [hoa, e1]; rfl))
        have H1 := Lib.hid (show outsideB s 0 59 = true by rw [outside_within, e1]; rfl)
        have H2 := H1; have H3 := H1
        clear hoa hpre hp0 e1 hq3
        go_wp2_with (first | (refine wpList_load_flat rfl 33 (.tmp 10) rfl _ rfl [.int .i64 s, .int .i64 g, .int .i64 K, .int .i64 a0, .int .i64 a1, .int .i64 a2, .int .i64 a3, .int .i64 a4, .int .i64 a5, .int .i64 a6, .int .i64 a7] _ Try.underlying33 rfl (by kernel_rfl) HP.out ?_) | (refine wpList_store_new rfl 33 (.tmp 4) (.tmp 11) rfl wr (ints [0, 0, 0, 0, 0, 0, 0, 0, 0, 0, 0]) [.int .i64 s, .int .i64 g, .int .i64 K, .int .i64 a0, .int .i64 a1, .int .i64 a2, .int .i64 a3, .int .i64 a4, .int .i64 a5, .int .i64 a6, .int .i64 a7] 33 rfl rfl rfl (sz_Row ((s, g), K, a0, a1, a2, a3, a4, a5, a6, a7)) HO.out ?_; rw [show ([.int .i64 s, .int .i64 g, .int .i64 K, .int .i64 a0, .int .i64 a1, .int .i64 a2, .int .i64 a3, .int .i64 a4, .int .i64 a5, .int .i64 a6, .int .i64 a7] : List Value).toArray = #[.int .i64 s, .int .i64 g, .int .i64 K, .int .i64 a0, .int .i64 a1, .int .i64 a2, .int .i64 a3, .int .i64 a4, .int .i64 a5, .int .i64 a6, .int .i64 a7] from rfl, Hw3.out]; clear HO))
        refine wp_planK [] 30 [] [some 12, some 13, some 14, some 15, some 16, some 17, some 18, some 19, some 20, some 21, some 22, some 23, some 24, some 25, some 26, some 27, some 28, some 29, some 30, some 31, some 32, some 33, some 34, some 35, some 36, some 37, some 38, some 39, some 40, some 41, some 42, some 43, some 44] [[], [0], [0, 1], [0, 1, 2], [0, 1, 2, 3], [0, 1, 2, 3, 4], [0, 1, 2, 3, 4, 5], [0, 1, 2, 3, 4, 5, 6], [0, 1, 2, 3, 4, 5, 6, 7], [0, 1, 2, 3, 4, 5, 6, 7, 8], [0, 1, 2, 3, 4, 5, 6, 7, 8, 9], [0, 1, 2, 3, 4, 5, 6, 7, 8, 9, 10], [0, 1, 2, 3, 4, 5, 6, 7, 8, 9, 10, 11], [0, 1, 2, 3, 4, 5, 6, 7, 8, 9, 10, 11, 12], [0, 1, 2, 3, 4, 5, 6, 7, 8, 9, 10, 11, 12, 13], [0, 1, 2, 3, 4, 5, 6, 7, 8, 9, 10, 11, 12, 13, 14], [0, 1, 2, 3, 4, 5, 6, 7, 8, 9, 10, 11, 12, 13, 14, 15], [0, 1, 2, 3, 4, 5, 6, 7, 8, 9, 10, 11, 12, 13, 14, 15, 16], [0, 1, 2, 3, 4, 5, 6, 7, 8, 9, 10, 11, 12, 13, 14, 15, 16, 17], [0, 1, 2, 3, 4, 5, 6, 7, 8, 9, 10, 11, 12, 13, 14, 15, 16, 17, 18], [0, 1, 2, 3, 4, 5, 6, 7, 8, 9, 10, 11, 12, 13, 14, 15, 16, 17, 18, 19], [0, 1, 2, 3, 4, 5, 6, 7, 8, 9, 10, 11, 12, 13, 14, 15, 16, 17, 18, 19], [0, 1, 2, 3, 4, 5, 6, 7, 8, 9, 10, 11, 12, 13, 14, 15, 16, 17, 18, 19, 21], [0, 1, 2, 3, 4, 5, 6, 7, 8, 9, 10, 11, 12, 13, 14, 15, 16, 17, 18, 19, 20, 21, 22], [0, 1, 2, 3, 4, 5, 6, 7, 8, 9, 10, 11, 12, 13, 14, 15, 16, 17, 18, 19, 20, 21, 22, 23], [0, 1, 2, 3, 4, 5, 6, 7, 8, 9, 10, 11, 12, 13, 14, 15, 16, 17, 18, 19, 20, 21, 22, 23, 24], [0, 1, 2, 3, 4, 5, 6, 7, 8, 9, 10, 11, 12, 13, 14, 15, 16, 17, 18, 19, 20, 21, 22, 23, 24, 25], [0, 1, 2, 3, 4, 5, 6, 7, 8, 9, 10, 11, 12, 13, 14, 15, 16, 17, 18, 19], [0, 1, 2, 3, 4, 5, 6, 7, 8, 9, 10, 11, 12, 13, 14, 15, 16, 17, 18, 19, 27], [0, 1, 2, 3, 4, 5, 6, 7, 8, 9, 10, 11, 12, 13, 14, 15, 16, 17, 18, 19, 27, 28], [0, 1, 2, 3, 4, 5, 6, 7, 8, 9, 10, 11, 12, 13, 14, 15, 16, 17, 18, 19, 20, 21, 22, 23, 24, 25, 26, 27, 28, 29], [0, 1, 2, 3, 4, 5, 6, 7, 8, 9, 10, 11, 12, 13, 14, 15, 16, 17, 18, 19, 20, 21, 22, 23, 24, 25, 26, 27, 28, 29, 30], [0, 1, 2, 3, 4, 5, 6, 7, 8, 9, 10, 11, 12, 13, 14, 15, 16, 17, 18, 19, 20, 21, 22, 23, 24, 25, 26, 27, 28, 29, 30, 31]] [0, 1, 2, 3, 4, 5, 6, 7, 8, 9, 10, 11, 12, 13, 14, 15, 16, 17, 18, 19, 20, 21, 22, 23, 24, 25, 26, 27, 28, 29] (fun Lf σ V => Below w3.heap.size w3 V) mixed rfl (by kernel_rfl) (by decide) (by decide) (by decide) below_drew rfl ?_
        iterate 30 apply Exists.intro
        refine ⟨rfl, ?_, ?_⟩
        · simp only [List.take_succ_cons, List.take_zero, AllFrom.cons_eq, AllFrom.nil_eq, OpGoalK]
          refine ⟨?_, ?_, ?_, ?_, ?_, ?_, ?_, ?_, ?_, ?_, ?_, ?_, ?_, ?_, ?_, ?_, ?_, ?_, ?_, ?_, ?_, ?_, ?_, ?_, ?_, ?_, ?_, ?_, ?_, ?_, trivial⟩
          all_goals (intro L' σ V h1 h2 h3 hI hp; have HA1 := Lib.hid h1; have HA2 := Lib.hid h2; have HA3 := Lib.hid h3; clear h1 h2 h3; (try simp only [List.getD_cons_zero, List.getD_cons_succ, preK_cons, preK_nil] at hp); (try simp only [List.mem_cons, List.not_mem_nil, or_false, eq_self, Nat.reduceEqDiff, Nat.reduceAdd, Nat.zero_add, false_or, true_or, true_and, and_true] at hp); (first | (have hq : True := hp; clear hq hp) | skip); have HI := Lib.hid hI; clear hI)
          all_goals (
            have hzV := (Mod.ofBelow HI.out).keep Hz3.out (by simp)
            have r0 := blk_cell hzV 0
            have r1 := blk_cell hzV 1
            have r2 := blk_cell hzV 2
            have r3 := blk_cell hzV 3
            have r4 := blk_cell hzV 4
            have r5 := blk_cell hzV 5
            have r6 := blk_cell hzV 6
            have r7 := blk_cell hzV 7
            have r8 := blk_cell hzV 8
            have r9 := blk_cell hzV 9
            have r10 := blk_cell hzV 10
            simp only [List.getElem?_toArray, List.getElem?_cons_zero, List.getElem?_cons_succ] at r0 r1 r2 r3 r4 r5 r6 r7 r8 r9 r10
            have rl := blk_lt hzV
            clear hzV)
          · (go_simp; exact ⟨.inr rfl, HI.out⟩)
          · (go_simp; exact ⟨.inr rfl, HI.out⟩)
          · (go_simp; exact ⟨.inr rfl, HI.out⟩)
          · (first | (go_simp; refine (outside_any _ _ _ _).mono ?_; rintro e V' ⟨rfl, rfl⟩; rw [H1.out]; exact ⟨_, rfl, .inr rfl, HI.out⟩) | (go_simp; exact ⟨.inr rfl, HI.out⟩))
          · (go_simp; exact ⟨.inr rfl, HI.out⟩)
          · (go_simp; exact ⟨.inr rfl, HI.out⟩)
          · (go_simp; exact ⟨.inr rfl, HI.out⟩)
          · (go_simp; exact ⟨.inr rfl, HI.out⟩)
          · (first | (go_simp; refine (outside_any _ _ _ _).mono ?_; rintro e V' ⟨rfl, rfl⟩; rw [H2.out]; exact ⟨_, rfl, .inr rfl, HI.out⟩) | (go_simp; exact ⟨.inr rfl, HI.out⟩))
          · (go_simp; exact ⟨.inr rfl, HI.out⟩)
          · (go_simp; exact ⟨.inr rfl, HI.out⟩)
          · (go_simp; exact ⟨.inr rfl, HI.out⟩)
          · (go_simp; exact ⟨.inr rfl, HI.out⟩)
          · (first | (go_simp; refine (beastCheck_any K a0 a1 a2 a3 a4 a5 a6 a7 _).mono ?_; rintro e V' ⟨rfl, hb⟩; rw [H3.out]; exact ⟨_, rfl, .inr rfl, HI.out.trans (hb.mono HI.out.size)⟩) | (go_simp; exact ⟨.inr rfl, HI.out⟩))
          · (go_simp; exact ⟨.inr rfl, HI.out⟩)
          · (go_simp; exact ⟨.inr rfl, HI.out⟩)
          · (go_simp; exact ⟨.inr rfl, HI.out⟩)
          · (go_simp; exact ⟨.inr rfl, HI.out⟩)
          · (go_simp; exact ⟨.inr rfl, HI.out⟩)
          · (go_simp; exact ⟨.inr rfl, HI.out⟩)
          · (go_simp; exact ⟨.inr rfl, HI.out⟩)
          · (go_simp; exact ⟨.inr rfl, HI.out⟩)
          · (go_simp; exact ⟨.inr rfl, HI.out⟩)
          · (go_simp; exact ⟨.inr rfl, HI.out⟩)
          · (go_simp; exact ⟨.inr rfl, HI.out⟩)
          · (go_simp; exact ⟨.inr rfl, HI.out⟩)
          · (go_simp; exact ⟨.inr rfl, HI.out⟩)
          · (go_simp; exact ⟨.inr rfl, HI.out⟩)
          · (go_simp; exact ⟨.inr rfl, HI.out⟩)
          · (go_simp; exact ⟨.inr rfl, HI.out⟩)
        · intro L' σ V h1 hI hp
          have hbV := Hb03.out.trans (hI.mono Hb03.out.size)
          clear h1 hI
          simp only [preK_cons, preK_nil, List.getD_cons_zero, List.getD_cons_succ] at hp; simp only [List.mem_cons, List.not_mem_nil, or_false, eq_self, Nat.reduceEqDiff, false_or, true_or, true_and, and_true] at hp
          have HbV := Lib.hid hbV
          clear hbV
          simp only [List.drop_succ_cons, List.drop_zero]
          go_simp
          clear hp
          go_wp2_with fail
          refine ⟨rfl, ?_⟩
          go_wp2
          refine bodyPost_ret (v := .bool false) (by unfold results; try go_simp) rfl ?_
          rw [Hno.out]
          exact ⟨rfl, HbV.out⟩
        all_goals exact undef
      | true =>
        have H1 := Lib.hid (show outsideB s 0 59 = false by rw [outside_within, e1]; rfl)
        cases e2 : withinB g 0 1000000 with
        | false =>
          have Hno := Lib.hid (mayB_no hlt (by rw [hoa, e1, e2]; rfl))
          have H2 := Lib.hid (show outsideB g 0 1000000 = true by rw [outside_within, e2]; rfl)
          have H3 := H1
          clear hoa hpre hp0 e1 e2 hq3
          go_wp2_with (first | (refine wpList_load_flat rfl 33 (.tmp 10) rfl _ rfl [.int .i64 s, .int .i64 g, .int .i64 K, .int .i64 a0, .int .i64 a1, .int .i64 a2, .int .i64 a3, .int .i64 a4, .int .i64 a5, .int .i64 a6, .int .i64 a7] _ Try.underlying33 rfl (by kernel_rfl) HP.out ?_) | (refine wpList_store_new rfl 33 (.tmp 4) (.tmp 11) rfl wr (ints [0, 0, 0, 0, 0, 0, 0, 0, 0, 0, 0]) [.int .i64 s, .int .i64 g, .int .i64 K, .int .i64 a0, .int .i64 a1, .int .i64 a2, .int .i64 a3, .int .i64 a4, .int .i64 a5, .int .i64 a6, .int .i64 a7] 33 rfl rfl rfl (sz_Row ((s, g), K, a0, a1, a2, a3, a4, a5, a6, a7)) HO.out ?_; rw [show ([.int .i64 s, .int .i64 g, .int .i64 K, .int .i64 a0, .int .i64 a1, .int .i64 a2, .int .i64 a3, .int .i64 a4, .int .i64 a5, .int .i64 a6, .int .i64 a7] : List Value).toArray = #[.int .i64 s, .int .i64 g, .int .i64 K, .int .i64 a0, .int .i64 a1, .int .i64 a2, .int .i64 a3, .int .i64 a4, .int .i64 a5, .int .i64 a6, .int .i64 a7] from rfl, Hw3.out]; clear HO))
          refine wp_planK [] 30 [] [some 12, some 13, some 14, some 15, some 16, some 17, some 18, some 19, some 20, some 21, some 22, some 23, some 24, some 25, some 26, some 27, some 28, some 29, some 30, some 31, some 32, some 33, some 34, some 35, some 36, some 37, some 38, some 39, some 40, some 41, some 42, some 43, some 44] [[], [0], [0, 1], [0, 1, 2], [0, 1, 2, 3], [0, 1, 2, 3, 4], [0, 1, 2, 3, 4, 5], [0, 1, 2, 3, 4, 5, 6], [0, 1, 2, 3, 4, 5, 6, 7], [0, 1, 2, 3, 4, 5, 6, 7, 8], [0, 1, 2, 3, 4, 5, 6, 7, 8, 9], [0, 1, 2, 3, 4, 5, 6, 7, 8, 9, 10], [0, 1, 2, 3, 4, 5, 6, 7, 8, 9, 10, 11], [0, 1, 2, 3, 4, 5, 6, 7, 8, 9, 10, 11, 12], [0, 1, 2, 3, 4, 5, 6, 7, 8, 9, 10, 11, 12, 13], [0, 1, 2, 3, 4, 5, 6, 7, 8, 9, 10, 11, 12, 13, 14], [0, 1, 2, 3, 4, 5, 6, 7, 8, 9, 10, 11, 12, 13, 14, 15], [0, 1, 2, 3, 4, 5, 6, 7, 8, 9, 10, 11, 12, 13, 14, 15, 16], [0, 1, 2, 3, 4, 5, 6, 7, 8, 9, 10, 11, 12, 13, 14, 15, 16, 17], [0, 1, 2, 3, 4, 5, 6, 7, 8, 9, 10, 11, 12, 13, 14, 15, 16, 17, 18], [0, 1, 2, 3, 4, 5, 6, 7, 8, 9, 10, 11, 12, 13, 14, 15, 16, 17, 18, 19], [0, 1, 2, 3, 4, 5, 6, 7, 8, 9, 10, 11, 12, 13, 14, 15, 16, 17, 18, 19], [0, 1, 2, 3, 4, 5, 6, 7, 8, 9, 10, 11, 12, 13, 14, 15, 16, 17, 18, 19, 21], [0, 1, 2, 3, 4, 5, 6, 7, 8, 9, 10, 11, 12, 13, 14, 15, 16, 17, 18, 19, 20, 21, 22], [0, 1, 2, 3, 4, 5, 6, 7, 8, 9, 10, 11, 12, 13, 14, 15, 16, 17, 18, 19, 20, 21, 22, 23], [0, 1, 2, 3, 4, 5, 6, 7, 8, 9, 10, 11, 12, 13, 14, 15, 16, 17, 18, 19, 20, 21, 22, 23, 24], [0, 1, 2, 3, 4, 5, 6, 7, 8, 9, 10, 11, 12, 13, 14, 15, 16, 17, 18, 19, 20, 21, 22, 23, 24, 25], [0, 1, 2, 3, 4, 5, 6, 7, 8, 9, 10, 11, 12, 13, 14, 15, 16, 17, 18, 19], [0, 1, 2, 3, 4, 5, 6, 7, 8, 9, 10, 11, 12, 13, 14, 15, 16, 17, 18, 19, 27], [0, 1, 2, 3, 4, 5, 6, 7, 8, 9, 10, 11, 12, 13, 14, 15, 16, 17, 18, 19, 27, 28], [0, 1, 2, 3, 4, 5, 6, 7, 8, 9, 10, 11, 12, 13, 14, 15, 16, 17, 18, 19, 20, 21, 22, 23, 24, 25, 26, 27, 28, 29], [0, 1, 2, 3, 4, 5, 6, 7, 8, 9, 10, 11, 12, 13, 14, 15, 16, 17, 18, 19, 20, 21, 22, 23, 24, 25, 26, 27, 28, 29, 30], [0, 1, 2, 3, 4, 5, 6, 7, 8, 9, 10, 11, 12, 13, 14, 15, 16, 17, 18, 19, 20, 21, 22, 23, 24, 25, 26, 27, 28, 29, 30, 31]] [0, 1, 2, 3, 4, 5, 6, 7, 8, 9, 10, 11, 12, 13, 14, 15, 16, 17, 18, 19, 20, 21, 22, 23, 24, 25, 26, 27, 28, 29] (fun Lf σ V => Below w3.heap.size w3 V) mixed rfl (by kernel_rfl) (by decide) (by decide) (by decide) below_drew rfl ?_
          iterate 30 apply Exists.intro
          refine ⟨rfl, ?_, ?_⟩
          · simp only [List.take_succ_cons, List.take_zero, AllFrom.cons_eq, AllFrom.nil_eq, OpGoalK]
            refine ⟨?_, ?_, ?_, ?_, ?_, ?_, ?_, ?_, ?_, ?_, ?_, ?_, ?_, ?_, ?_, ?_, ?_, ?_, ?_, ?_, ?_, ?_, ?_, ?_, ?_, ?_, ?_, ?_, ?_, ?_, trivial⟩
            all_goals (intro L' σ V h1 h2 h3 hI hp; have HA1 := Lib.hid h1; have HA2 := Lib.hid h2; have HA3 := Lib.hid h3; clear h1 h2 h3; (try simp only [List.getD_cons_zero, List.getD_cons_succ, preK_cons, preK_nil] at hp); (try simp only [List.mem_cons, List.not_mem_nil, or_false, eq_self, Nat.reduceEqDiff, Nat.reduceAdd, Nat.zero_add, false_or, true_or, true_and, and_true] at hp); (first | (have hq : True := hp; clear hq hp) | skip); have HI := Lib.hid hI; clear hI)
            all_goals (
              have hzV := (Mod.ofBelow HI.out).keep Hz3.out (by simp)
              have r0 := blk_cell hzV 0
              have r1 := blk_cell hzV 1
              have r2 := blk_cell hzV 2
              have r3 := blk_cell hzV 3
              have r4 := blk_cell hzV 4
              have r5 := blk_cell hzV 5
              have r6 := blk_cell hzV 6
              have r7 := blk_cell hzV 7
              have r8 := blk_cell hzV 8
              have r9 := blk_cell hzV 9
              have r10 := blk_cell hzV 10
              simp only [List.getElem?_toArray, List.getElem?_cons_zero, List.getElem?_cons_succ] at r0 r1 r2 r3 r4 r5 r6 r7 r8 r9 r10
              have rl := blk_lt hzV
              clear hzV)
            · (go_simp; exact ⟨.inr rfl, HI.out⟩)
            · (go_simp; exact ⟨.inr rfl, HI.out⟩)
            · (go_simp; exact ⟨.inr rfl, HI.out⟩)
            · (first | (go_simp; refine (outside_any _ _ _ _).mono ?_; rintro e V' ⟨rfl, rfl⟩; rw [H1.out]; exact ⟨_, rfl, .inr rfl, HI.out⟩) | (go_simp; exact ⟨.inr rfl, HI.out⟩))
            · (go_simp; exact ⟨.inr rfl, HI.out⟩)
            · (go_simp; exact ⟨.inr rfl, HI.out⟩)
            · (go_simp; exact ⟨.inr rfl, HI.out⟩)
            · (go_simp; exact ⟨.inr rfl, HI.out⟩)
            · (first | (go_simp; refine (outside_any _ _ _ _).mono ?_; rintro e V' ⟨rfl, rfl⟩; rw [H2.out]; exact ⟨_, rfl, .inr rfl, HI.out⟩) | (go_simp; exact ⟨.inr rfl, HI.out⟩))
            · (go_simp; exact ⟨.inr rfl, HI.out⟩)
            · (go_simp; exact ⟨.inr rfl, HI.out⟩)
            · (go_simp; exact ⟨.inr rfl, HI.out⟩)
            · (go_simp; exact ⟨.inr rfl, HI.out⟩)
            · (first | (go_simp; refine (beastCheck_any K a0 a1 a2 a3 a4 a5 a6 a7 _).mono ?_; rintro e V' ⟨rfl, hb⟩; rw [H3.out]; exact ⟨_, rfl, .inr rfl, HI.out.trans (hb.mono HI.out.size)⟩) | (go_simp; exact ⟨.inr rfl, HI.out⟩))
            · (go_simp; exact ⟨.inr rfl, HI.out⟩)
            · (go_simp; exact ⟨.inr rfl, HI.out⟩)
            · (go_simp; exact ⟨.inr rfl, HI.out⟩)
            · (go_simp; exact ⟨.inr rfl, HI.out⟩)
            · (go_simp; exact ⟨.inr rfl, HI.out⟩)
            · (go_simp; exact ⟨.inr rfl, HI.out⟩)
            · (go_simp; exact ⟨.inr rfl, HI.out⟩)
            · (go_simp; exact ⟨.inr rfl, HI.out⟩)
            · (go_simp; exact ⟨.inr rfl, HI.out⟩)
            · (go_simp; exact ⟨.inr rfl, HI.out⟩)
            · (go_simp; exact ⟨.inr rfl, HI.out⟩)
            · (go_simp; exact ⟨.inr rfl, HI.out⟩)
            · (go_simp; exact ⟨.inr rfl, HI.out⟩)
            · (go_simp; exact ⟨.inr rfl, HI.out⟩)
            · (go_simp; exact ⟨.inr rfl, HI.out⟩)
            · (go_simp; exact ⟨.inr rfl, HI.out⟩)
          · intro L' σ V h1 hI hp
            have hbV := Hb03.out.trans (hI.mono Hb03.out.size)
            clear h1 hI
            simp only [preK_cons, preK_nil, List.getD_cons_zero, List.getD_cons_succ] at hp; simp only [List.mem_cons, List.not_mem_nil, or_false, eq_self, Nat.reduceEqDiff, false_or, true_or, true_and, and_true] at hp
            have HbV := Lib.hid hbV
            clear hbV
            simp only [List.drop_succ_cons, List.drop_zero]
            go_simp
            clear hp
            go_wp2_with fail
            refine ⟨rfl, ?_⟩
            go_wp2
            refine bodyPost_ret (v := .bool false) (by unfold results; try go_simp) rfl ?_
            rw [Hno.out]
            exact ⟨rfl, HbV.out⟩
          all_goals exact undef
        | true =>
          have H2 := Lib.hid (show outsideB g 0 1000000 = false by rw [outside_within, e2]; rfl)
          by_cases e3 : beastE K [a0, a1, a2, a3, a4, a5, a6, a7] = 0
          · have H3 := Lib.hid e3
            cases n with
            | zero =>
              have hok : okAt l 0 = true := by rw [hoa, e1, e2, e3, hp0 rfl]; rfl
              have hok2 : ∀ j, j < 0 + 1 → okAt l j = true := fun j hj => (show j = 0 by omega) ▸ hok
              have Hok := Lib.hid hok2
              clear hoa hpre hp0 e1 e2 e3 hq3 hok hok2
              go_wp2_with (first | (refine wpList_load_flat rfl 33 (.tmp 10) rfl _ rfl [.int .i64 s, .int .i64 g, .int .i64 K, .int .i64 a0, .int .i64 a1, .int .i64 a2, .int .i64 a3, .int .i64 a4, .int .i64 a5, .int .i64 a6, .int .i64 a7] _ Try.underlying33 rfl (by kernel_rfl) HP.out ?_) | (refine wpList_store_new rfl 33 (.tmp 4) (.tmp 11) rfl wr (ints [0, 0, 0, 0, 0, 0, 0, 0, 0, 0, 0]) [.int .i64 s, .int .i64 g, .int .i64 K, .int .i64 a0, .int .i64 a1, .int .i64 a2, .int .i64 a3, .int .i64 a4, .int .i64 a5, .int .i64 a6, .int .i64 a7] 33 rfl rfl rfl (sz_Row ((s, g), K, a0, a1, a2, a3, a4, a5, a6, a7)) HO.out ?_; rw [show ([.int .i64 s, .int .i64 g, .int .i64 K, .int .i64 a0, .int .i64 a1, .int .i64 a2, .int .i64 a3, .int .i64 a4, .int .i64 a5, .int .i64 a6, .int .i64 a7] : List Value).toArray = #[.int .i64 s, .int .i64 g, .int .i64 K, .int .i64 a0, .int .i64 a1, .int .i64 a2, .int .i64 a3, .int .i64 a4, .int .i64 a5, .int .i64 a6, .int .i64 a7] from rfl, Hw3.out]; clear HO))
              refine wp_planK [] 30 [] [some 12, some 13, some 14, some 15, some 16, some 17, some 18, some 19, some 20, some 21, some 22, some 23, some 24, some 25, some 26, some 27, some 28, some 29, some 30, some 31, some 32, some 33, some 34, some 35, some 36, some 37, some 38, some 39, some 40, some 41, some 42, some 43, some 44] [[], [0], [0, 1], [0, 1, 2], [0, 1, 2, 3], [0, 1, 2, 3, 4], [0, 1, 2, 3, 4, 5], [0, 1, 2, 3, 4, 5, 6], [0, 1, 2, 3, 4, 5, 6, 7], [0, 1, 2, 3, 4, 5, 6, 7, 8], [0, 1, 2, 3, 4, 5, 6, 7, 8, 9], [0, 1, 2, 3, 4, 5, 6, 7, 8, 9, 10], [0, 1, 2, 3, 4, 5, 6, 7, 8, 9, 10, 11], [0, 1, 2, 3, 4, 5, 6, 7, 8, 9, 10, 11, 12], [0, 1, 2, 3, 4, 5, 6, 7, 8, 9, 10, 11, 12, 13], [0, 1, 2, 3, 4, 5, 6, 7, 8, 9, 10, 11, 12, 13, 14], [0, 1, 2, 3, 4, 5, 6, 7, 8, 9, 10, 11, 12, 13, 14, 15], [0, 1, 2, 3, 4, 5, 6, 7, 8, 9, 10, 11, 12, 13, 14, 15, 16], [0, 1, 2, 3, 4, 5, 6, 7, 8, 9, 10, 11, 12, 13, 14, 15, 16, 17], [0, 1, 2, 3, 4, 5, 6, 7, 8, 9, 10, 11, 12, 13, 14, 15, 16, 17, 18], [0, 1, 2, 3, 4, 5, 6, 7, 8, 9, 10, 11, 12, 13, 14, 15, 16, 17, 18, 19], [0, 1, 2, 3, 4, 5, 6, 7, 8, 9, 10, 11, 12, 13, 14, 15, 16, 17, 18, 19], [0, 1, 2, 3, 4, 5, 6, 7, 8, 9, 10, 11, 12, 13, 14, 15, 16, 17, 18, 19, 21], [0, 1, 2, 3, 4, 5, 6, 7, 8, 9, 10, 11, 12, 13, 14, 15, 16, 17, 18, 19, 20, 21, 22], [0, 1, 2, 3, 4, 5, 6, 7, 8, 9, 10, 11, 12, 13, 14, 15, 16, 17, 18, 19, 20, 21, 22, 23], [0, 1, 2, 3, 4, 5, 6, 7, 8, 9, 10, 11, 12, 13, 14, 15, 16, 17, 18, 19, 20, 21, 22, 23, 24], [0, 1, 2, 3, 4, 5, 6, 7, 8, 9, 10, 11, 12, 13, 14, 15, 16, 17, 18, 19, 20, 21, 22, 23, 24, 25], [0, 1, 2, 3, 4, 5, 6, 7, 8, 9, 10, 11, 12, 13, 14, 15, 16, 17, 18, 19], [0, 1, 2, 3, 4, 5, 6, 7, 8, 9, 10, 11, 12, 13, 14, 15, 16, 17, 18, 19, 27], [0, 1, 2, 3, 4, 5, 6, 7, 8, 9, 10, 11, 12, 13, 14, 15, 16, 17, 18, 19, 27, 28], [0, 1, 2, 3, 4, 5, 6, 7, 8, 9, 10, 11, 12, 13, 14, 15, 16, 17, 18, 19, 20, 21, 22, 23, 24, 25, 26, 27, 28, 29], [0, 1, 2, 3, 4, 5, 6, 7, 8, 9, 10, 11, 12, 13, 14, 15, 16, 17, 18, 19, 20, 21, 22, 23, 24, 25, 26, 27, 28, 29, 30], [0, 1, 2, 3, 4, 5, 6, 7, 8, 9, 10, 11, 12, 13, 14, 15, 16, 17, 18, 19, 20, 21, 22, 23, 24, 25, 26, 27, 28, 29, 30, 31]] [0, 1, 2, 3, 4, 5, 6, 7, 8, 9, 10, 11, 12, 13, 14, 15, 16, 17, 18, 19, 20, 21, 22, 23, 24, 25, 26, 27, 28, 29] (fun Lf σ V => Below w3.heap.size w3 V) mixed rfl (by kernel_rfl) (by decide) (by decide) (by decide) below_drew rfl ?_
              iterate 30 apply Exists.intro
              refine ⟨rfl, ?_, ?_⟩
              · simp only [List.take_succ_cons, List.take_zero, AllFrom.cons_eq, AllFrom.nil_eq, OpGoalK]
                refine ⟨?_, ?_, ?_, ?_, ?_, ?_, ?_, ?_, ?_, ?_, ?_, ?_, ?_, ?_, ?_, ?_, ?_, ?_, ?_, ?_, ?_, ?_, ?_, ?_, ?_, ?_, ?_, ?_, ?_, ?_, trivial⟩
                all_goals (intro L' σ V h1 h2 h3 hI hp; have HA1 := Lib.hid h1; have HA2 := Lib.hid h2; have HA3 := Lib.hid h3; clear h1 h2 h3; (try simp only [List.getD_cons_zero, List.getD_cons_succ, preK_cons, preK_nil] at hp); (try simp only [List.mem_cons, List.not_mem_nil, or_false, eq_self, Nat.reduceEqDiff, Nat.reduceAdd, Nat.zero_add, false_or, true_or, true_and, and_true] at hp); (first | (have hq : True := hp; clear hq hp) | skip); have HI := Lib.hid hI; clear hI)
                all_goals (
                  have hzV := (Mod.ofBelow HI.out).keep Hz3.out (by simp)
                  have r0 := blk_cell hzV 0
                  have r1 := blk_cell hzV 1
                  have r2 := blk_cell hzV 2
                  have r3 := blk_cell hzV 3
                  have r4 := blk_cell hzV 4
                  have r5 := blk_cell hzV 5
                  have r6 := blk_cell hzV 6
                  have r7 := blk_cell hzV 7
                  have r8 := blk_cell hzV 8
                  have r9 := blk_cell hzV 9
                  have r10 := blk_cell hzV 10
                  simp only [List.getElem?_toArray, List.getElem?_cons_zero, List.getElem?_cons_succ] at r0 r1 r2 r3 r4 r5 r6 r7 r8 r9 r10
                  have rl := blk_lt hzV
                  clear hzV)
                · (go_simp; exact ⟨.inr rfl, HI.out⟩)
                · (go_simp; exact ⟨.inr rfl, HI.out⟩)
                · (go_simp; exact ⟨.inr rfl, HI.out⟩)
                · (first | (go_simp; refine (outside_any _ _ _ _).mono ?_; rintro e V' ⟨rfl, rfl⟩; rw [H1.out]; exact ⟨_, rfl, .inr rfl, HI.out⟩) | (go_simp; exact ⟨.inr rfl, HI.out⟩))
                · (go_simp; exact ⟨.inr rfl, HI.out⟩)
                · (go_simp; exact ⟨.inr rfl, HI.out⟩)
                · (go_simp; exact ⟨.inr rfl, HI.out⟩)
                · (go_simp; exact ⟨.inr rfl, HI.out⟩)
                · (first | (go_simp; refine (outside_any _ _ _ _).mono ?_; rintro e V' ⟨rfl, rfl⟩; rw [H2.out]; exact ⟨_, rfl, .inr rfl, HI.out⟩) | (go_simp; exact ⟨.inr rfl, HI.out⟩))
                · (go_simp; exact ⟨.inr rfl, HI.out⟩)
                · (go_simp; exact ⟨.inr rfl, HI.out⟩)
                · (go_simp; exact ⟨.inr rfl, HI.out⟩)
                · (go_simp; exact ⟨.inr rfl, HI.out⟩)
                · (first | (go_simp; refine (beastCheck_any K a0 a1 a2 a3 a4 a5 a6 a7 _).mono ?_; rintro e V' ⟨rfl, hb⟩; rw [H3.out]; exact ⟨_, rfl, .inr rfl, HI.out.trans (hb.mono HI.out.size)⟩) | (go_simp; exact ⟨.inr rfl, HI.out⟩))
                · (go_simp; exact ⟨.inr rfl, HI.out⟩)
                · (go_simp; exact ⟨.inr rfl, HI.out⟩)
                · (go_simp; exact ⟨.inr rfl, HI.out⟩)
                · (go_simp; exact ⟨.inr rfl, HI.out⟩)
                · (go_simp; exact ⟨.inr rfl, HI.out⟩)
                · (go_simp; exact ⟨.inr rfl, HI.out⟩)
                · (go_simp; exact ⟨.inr rfl, HI.out⟩)
                · (go_simp; exact ⟨.inr rfl, HI.out⟩)
                · (go_simp; exact ⟨.inr rfl, HI.out⟩)
                · (go_simp; exact ⟨.inr rfl, HI.out⟩)
                · (go_simp; exact ⟨.inr rfl, HI.out⟩)
                · (go_simp; exact ⟨.inr rfl, HI.out⟩)
                · (go_simp; exact ⟨.inr rfl, HI.out⟩)
                · (go_simp; exact ⟨.inr rfl, HI.out⟩)
                · (go_simp; exact ⟨.inr rfl, HI.out⟩)
                · (go_simp; exact ⟨.inr rfl, HI.out⟩)
              · intro L' σ V h1 hI hp
                have hbV := Hb03.out.trans (hI.mono Hb03.out.size)
                clear h1 hI
                simp only [preK_cons, preK_nil, List.getD_cons_zero, List.getD_cons_succ] at hp; simp only [List.mem_cons, List.not_mem_nil, or_false, eq_self, Nat.reduceEqDiff, false_or, true_or, true_and, and_true] at hp
                have HbV := Lib.hid hbV
                clear hbV
                simp only [List.drop_succ_cons, List.drop_zero]
                go_simp
                clear hp
                go_wp2_with fail
                refine ⟨rfl, ?_⟩
                go_wp2_with fail
                go_roundw
                case rel => exact ⟨0 + 1, by omega, by go_num, Hok.out, HbV.out⟩
                case measure => simp [intOf]; omega
              all_goals exact undef
            | succ k =>
              obtain ⟨pv, hpb, hcp, hal2⟩ := hpre k rfl
              have hcp3 := hq3 _ hal2 pv hcp
              have hg3 : ab < w3.heap.size := Nat.lt_of_lt_of_le hal2 (by rw [Hs3.out]; omega)
              have hki : (k : Int) < (l.length : Int) := by omega
              have hwr : IntKind.i64.wrap (k : Int) = (k : Int) := IntWalk.i64_in _ (by omega)
              have Hc3 := Lib.hid hcp3; have Hg3 := Lib.hid hg3
              clear hcp3 hg3
              cases e4 : decide (pv < s) with
              | true =>
                have hok : okAt l (k + 1) = true := by rw [hoa, e1, e2, e3, hpb, e4]; rfl
                have hok2 : ∀ j, j < k + 1 + 1 → okAt l j = true := fun j hj => by
                  rcases Nat.lt_or_eq_of_le (Nat.lt_succ_iff.1 hj) with h | h
                  · exact Hn0.out j h
                  · rw [h]; exact hok
                have Hok := Lib.hid hok2
                have hlq : decide (s ≤ pv) = false := by have := of_decide_eq_true e4; exact decide_eq_false (by omega)
                clear hoa hpre hp0 e1 e2 e3 e4 hq3 hok hok2 hpb hcp
                go_wp2_with (first | (refine wpList_load_flat rfl 33 (.tmp 10) rfl _ rfl [.int .i64 s, .int .i64 g, .int .i64 K, .int .i64 a0, .int .i64 a1, .int .i64 a2, .int .i64 a3, .int .i64 a4, .int .i64 a5, .int .i64 a6, .int .i64 a7] _ Try.underlying33 rfl (by kernel_rfl) HP.out ?_) | (refine wpList_store_new rfl 33 (.tmp 4) (.tmp 11) rfl wr (ints [0, 0, 0, 0, 0, 0, 0, 0, 0, 0, 0]) [.int .i64 s, .int .i64 g, .int .i64 K, .int .i64 a0, .int .i64 a1, .int .i64 a2, .int .i64 a3, .int .i64 a4, .int .i64 a5, .int .i64 a6, .int .i64 a7] 33 rfl rfl rfl (sz_Row ((s, g), K, a0, a1, a2, a3, a4, a5, a6, a7)) HO.out ?_; rw [show ([.int .i64 s, .int .i64 g, .int .i64 K, .int .i64 a0, .int .i64 a1, .int .i64 a2, .int .i64 a3, .int .i64 a4, .int .i64 a5, .int .i64 a6, .int .i64 a7] : List Value).toArray = #[.int .i64 s, .int .i64 g, .int .i64 K, .int .i64 a0, .int .i64 a1, .int .i64 a2, .int .i64 a3, .int .i64 a4, .int .i64 a5, .int .i64 a6, .int .i64 a7] from rfl, Hw3.out]; clear HO))
                refine wp_planK [] 30 [] [some 12, some 13, some 14, some 15, some 16, some 17, some 18, some 19, some 20, some 21, some 22, some 23, some 24, some 25, some 26, some 27, some 28, some 29, some 30, some 31, some 32, some 33, some 34, some 35, some 36, some 37, some 38, some 39, some 40, some 41, some 42, some 43, some 44] [[], [0], [0, 1], [0, 1, 2], [0, 1, 2, 3], [0, 1, 2, 3, 4], [0, 1, 2, 3, 4, 5], [0, 1, 2, 3, 4, 5, 6], [0, 1, 2, 3, 4, 5, 6, 7], [0, 1, 2, 3, 4, 5, 6, 7, 8], [0, 1, 2, 3, 4, 5, 6, 7, 8, 9], [0, 1, 2, 3, 4, 5, 6, 7, 8, 9, 10], [0, 1, 2, 3, 4, 5, 6, 7, 8, 9, 10, 11], [0, 1, 2, 3, 4, 5, 6, 7, 8, 9, 10, 11, 12], [0, 1, 2, 3, 4, 5, 6, 7, 8, 9, 10, 11, 12, 13], [0, 1, 2, 3, 4, 5, 6, 7, 8, 9, 10, 11, 12, 13, 14], [0, 1, 2, 3, 4, 5, 6, 7, 8, 9, 10, 11, 12, 13, 14, 15], [0, 1, 2, 3, 4, 5, 6, 7, 8, 9, 10, 11, 12, 13, 14, 15, 16], [0, 1, 2, 3, 4, 5, 6, 7, 8, 9, 10, 11, 12, 13, 14, 15, 16, 17], [0, 1, 2, 3, 4, 5, 6, 7, 8, 9, 10, 11, 12, 13, 14, 15, 16, 17, 18], [0, 1, 2, 3, 4, 5, 6, 7, 8, 9, 10, 11, 12, 13, 14, 15, 16, 17, 18, 19], [0, 1, 2, 3, 4, 5, 6, 7, 8, 9, 10, 11, 12, 13, 14, 15, 16, 17, 18, 19], [0, 1, 2, 3, 4, 5, 6, 7, 8, 9, 10, 11, 12, 13, 14, 15, 16, 17, 18, 19, 21], [0, 1, 2, 3, 4, 5, 6, 7, 8, 9, 10, 11, 12, 13, 14, 15, 16, 17, 18, 19, 20, 21, 22], [0, 1, 2, 3, 4, 5, 6, 7, 8, 9, 10, 11, 12, 13, 14, 15, 16, 17, 18, 19, 20, 21, 22, 23], [0, 1, 2, 3, 4, 5, 6, 7, 8, 9, 10, 11, 12, 13, 14, 15, 16, 17, 18, 19, 20, 21, 22, 23, 24], [0, 1, 2, 3, 4, 5, 6, 7, 8, 9, 10, 11, 12, 13, 14, 15, 16, 17, 18, 19, 20, 21, 22, 23, 24, 25], [0, 1, 2, 3, 4, 5, 6, 7, 8, 9, 10, 11, 12, 13, 14, 15, 16, 17, 18, 19], [0, 1, 2, 3, 4, 5, 6, 7, 8, 9, 10, 11, 12, 13, 14, 15, 16, 17, 18, 19, 27], [0, 1, 2, 3, 4, 5, 6, 7, 8, 9, 10, 11, 12, 13, 14, 15, 16, 17, 18, 19, 27, 28], [0, 1, 2, 3, 4, 5, 6, 7, 8, 9, 10, 11, 12, 13, 14, 15, 16, 17, 18, 19, 20, 21, 22, 23, 24, 25, 26, 27, 28, 29], [0, 1, 2, 3, 4, 5, 6, 7, 8, 9, 10, 11, 12, 13, 14, 15, 16, 17, 18, 19, 20, 21, 22, 23, 24, 25, 26, 27, 28, 29, 30], [0, 1, 2, 3, 4, 5, 6, 7, 8, 9, 10, 11, 12, 13, 14, 15, 16, 17, 18, 19, 20, 21, 22, 23, 24, 25, 26, 27, 28, 29, 30, 31]] [0, 1, 2, 3, 4, 5, 6, 7, 8, 9, 10, 11, 12, 13, 14, 15, 16, 17, 18, 19, 20, 21, 22, 23, 24, 25, 26, 27, 28, 29] (fun Lf σ V => Below w3.heap.size w3 V) mixed rfl (by kernel_rfl) (by decide) (by decide) (by decide) below_drew rfl ?_
                iterate 30 apply Exists.intro
                refine ⟨rfl, ?_, ?_⟩
                · simp only [List.take_succ_cons, List.take_zero, AllFrom.cons_eq, AllFrom.nil_eq, OpGoalK]
                  refine ⟨?_, ?_, ?_, ?_, ?_, ?_, ?_, ?_, ?_, ?_, ?_, ?_, ?_, ?_, ?_, ?_, ?_, ?_, ?_, ?_, ?_, ?_, ?_, ?_, ?_, ?_, ?_, ?_, ?_, ?_, trivial⟩
                  all_goals (intro L' σ V h1 h2 h3 hI hp; have HA1 := Lib.hid h1; have HA2 := Lib.hid h2; have HA3 := Lib.hid h3; clear h1 h2 h3; (try simp only [List.getD_cons_zero, List.getD_cons_succ, preK_cons, preK_nil] at hp); (try simp only [List.mem_cons, List.not_mem_nil, or_false, eq_self, Nat.reduceEqDiff, Nat.reduceAdd, Nat.zero_add, false_or, true_or, true_and, and_true] at hp); (first | (have hq : True := hp; clear hq hp) | skip); have HI := Lib.hid hI; clear hI)
                  all_goals (
                    have hzV := (Mod.ofBelow HI.out).keep Hz3.out (by simp)
                    have r0 := blk_cell hzV 0
                    have r1 := blk_cell hzV 1
                    have r2 := blk_cell hzV 2
                    have r3 := blk_cell hzV 3
                    have r4 := blk_cell hzV 4
                    have r5 := blk_cell hzV 5
                    have r6 := blk_cell hzV 6
                    have r7 := blk_cell hzV 7
                    have r8 := blk_cell hzV 8
                    have r9 := blk_cell hzV 9
                    have r10 := blk_cell hzV 10
                    simp only [List.getElem?_toArray, List.getElem?_cons_zero, List.getElem?_cons_succ] at r0 r1 r2 r3 r4 r5 r6 r7 r8 r9 r10
                    have rl := blk_lt hzV
                    have c0 := (HI.out.cell (p := ⟨ab, ao + k * 11, none⟩) Hg3.out).trans Hc3.out
                    have hgl := Nat.lt_of_lt_of_le Hg3.out HI.out.size
                    clear hzV)
                  · (go_simp; exact ⟨.inr rfl, HI.out⟩)
                  · (go_simp; exact ⟨.inr rfl, HI.out⟩)
                  · (go_simp; exact ⟨.inr rfl, HI.out⟩)
                  · (first | (go_simp; refine (outside_any _ _ _ _).mono ?_; rintro e V' ⟨rfl, rfl⟩; rw [H1.out]; exact ⟨_, rfl, .inr rfl, HI.out⟩) | (go_simp; exact ⟨.inr rfl, HI.out⟩))
                  · (go_simp; exact ⟨.inr rfl, HI.out⟩)
                  · (go_simp; exact ⟨.inr rfl, HI.out⟩)
                  · (go_simp; exact ⟨.inr rfl, HI.out⟩)
                  · (go_simp; exact ⟨.inr rfl, HI.out⟩)
                  · (first | (go_simp; refine (outside_any _ _ _ _).mono ?_; rintro e V' ⟨rfl, rfl⟩; rw [H2.out]; exact ⟨_, rfl, .inr rfl, HI.out⟩) | (go_simp; exact ⟨.inr rfl, HI.out⟩))
                  · (go_simp; exact ⟨.inr rfl, HI.out⟩)
                  · (go_simp; exact ⟨.inr rfl, HI.out⟩)
                  · (go_simp; exact ⟨.inr rfl, HI.out⟩)
                  · (go_simp; exact ⟨.inr rfl, HI.out⟩)
                  · (first | (go_simp; refine (beastCheck_any K a0 a1 a2 a3 a4 a5 a6 a7 _).mono ?_; rintro e V' ⟨rfl, hb⟩; rw [H3.out]; exact ⟨_, rfl, .inr rfl, HI.out.trans (hb.mono HI.out.size)⟩) | (go_simp; exact ⟨.inr rfl, HI.out⟩))
                  · (go_simp; exact ⟨.inr rfl, HI.out⟩)
                  · (go_simp; exact ⟨.inr rfl, HI.out⟩)
                  · (go_simp; exact ⟨.inr rfl, HI.out⟩)
                  · (go_simp; exact ⟨.inr rfl, HI.out⟩)
                  · (go_simp; exact ⟨.inr rfl, HI.out⟩)
                  · (go_simp; exact ⟨.inr rfl, HI.out⟩)
                  · (go_simp; exact ⟨.inr rfl, HI.out⟩)
                  · (go_simp; exact ⟨.inr rfl, HI.out⟩)
                  · (go_simp; exact ⟨.inr rfl, HI.out⟩)
                  · (go_simp; exact ⟨.inr rfl, HI.out⟩)
                  · (go_simp; exact ⟨.inr rfl, HI.out⟩)
                  · (go_simp; exact ⟨.inr rfl, HI.out⟩)
                  · (go_simp; exact ⟨.inr rfl, HI.out⟩)
                  · (go_simp; exact ⟨.inr rfl, HI.out⟩)
                  · (go_simp; exact ⟨.inr rfl, HI.out⟩)
                  · (go_simp; exact ⟨.inr rfl, HI.out⟩)
                · intro L' σ V h1 hI hp
                  have hbV := Hb03.out.trans (hI.mono Hb03.out.size)
                  clear h1 hI
                  simp only [preK_cons, preK_nil, List.getD_cons_zero, List.getD_cons_succ] at hp; simp only [List.mem_cons, List.not_mem_nil, or_false, eq_self, Nat.reduceEqDiff, false_or, true_or, true_and, and_true] at hp
                  have HbV := Lib.hid hbV
                  clear hbV
                  simp only [List.drop_succ_cons, List.drop_zero]
                  go_simp
                  clear hp
                  go_wp2_with fail
                  refine ⟨rfl, ?_⟩
                  go_wp2_with fail
                  go_roundw
                  case rel => exact ⟨k + 1 + 1, by omega, by go_num, Hok.out, HbV.out⟩
                  case measure => simp [intOf]; omega
                all_goals exact undef
              | false =>
                have Hno := Lib.hid (mayB_no hlt (by rw [hoa, e1, e2, e3, hpb, e4]; rfl))
                have hlq : decide (s ≤ pv) = true := by have := of_decide_eq_false e4; exact decide_eq_true (by omega)
                clear hoa hpre hp0 e1 e2 e3 e4 hq3 hpb hcp
                go_wp2_with (first | (refine wpList_load_flat rfl 33 (.tmp 10) rfl _ rfl [.int .i64 s, .int .i64 g, .int .i64 K, .int .i64 a0, .int .i64 a1, .int .i64 a2, .int .i64 a3, .int .i64 a4, .int .i64 a5, .int .i64 a6, .int .i64 a7] _ Try.underlying33 rfl (by kernel_rfl) HP.out ?_) | (refine wpList_store_new rfl 33 (.tmp 4) (.tmp 11) rfl wr (ints [0, 0, 0, 0, 0, 0, 0, 0, 0, 0, 0]) [.int .i64 s, .int .i64 g, .int .i64 K, .int .i64 a0, .int .i64 a1, .int .i64 a2, .int .i64 a3, .int .i64 a4, .int .i64 a5, .int .i64 a6, .int .i64 a7] 33 rfl rfl rfl (sz_Row ((s, g), K, a0, a1, a2, a3, a4, a5, a6, a7)) HO.out ?_; rw [show ([.int .i64 s, .int .i64 g, .int .i64 K, .int .i64 a0, .int .i64 a1, .int .i64 a2, .int .i64 a3, .int .i64 a4, .int .i64 a5, .int .i64 a6, .int .i64 a7] : List Value).toArray = #[.int .i64 s, .int .i64 g, .int .i64 K, .int .i64 a0, .int .i64 a1, .int .i64 a2, .int .i64 a3, .int .i64 a4, .int .i64 a5, .int .i64 a6, .int .i64 a7] from rfl, Hw3.out]; clear HO))
                refine wp_planK [] 30 [] [some 12, some 13, some 14, some 15, some 16, some 17, some 18, some 19, some 20, some 21, some 22, some 23, some 24, some 25, some 26, some 27, some 28, some 29, some 30, some 31, some 32, some 33, some 34, some 35, some 36, some 37, some 38, some 39, some 40, some 41, some 42, some 43, some 44] [[], [0], [0, 1], [0, 1, 2], [0, 1, 2, 3], [0, 1, 2, 3, 4], [0, 1, 2, 3, 4, 5], [0, 1, 2, 3, 4, 5, 6], [0, 1, 2, 3, 4, 5, 6, 7], [0, 1, 2, 3, 4, 5, 6, 7, 8], [0, 1, 2, 3, 4, 5, 6, 7, 8, 9], [0, 1, 2, 3, 4, 5, 6, 7, 8, 9, 10], [0, 1, 2, 3, 4, 5, 6, 7, 8, 9, 10, 11], [0, 1, 2, 3, 4, 5, 6, 7, 8, 9, 10, 11, 12], [0, 1, 2, 3, 4, 5, 6, 7, 8, 9, 10, 11, 12, 13], [0, 1, 2, 3, 4, 5, 6, 7, 8, 9, 10, 11, 12, 13, 14], [0, 1, 2, 3, 4, 5, 6, 7, 8, 9, 10, 11, 12, 13, 14, 15], [0, 1, 2, 3, 4, 5, 6, 7, 8, 9, 10, 11, 12, 13, 14, 15, 16], [0, 1, 2, 3, 4, 5, 6, 7, 8, 9, 10, 11, 12, 13, 14, 15, 16, 17], [0, 1, 2, 3, 4, 5, 6, 7, 8, 9, 10, 11, 12, 13, 14, 15, 16, 17, 18], [0, 1, 2, 3, 4, 5, 6, 7, 8, 9, 10, 11, 12, 13, 14, 15, 16, 17, 18, 19], [0, 1, 2, 3, 4, 5, 6, 7, 8, 9, 10, 11, 12, 13, 14, 15, 16, 17, 18, 19], [0, 1, 2, 3, 4, 5, 6, 7, 8, 9, 10, 11, 12, 13, 14, 15, 16, 17, 18, 19, 21], [0, 1, 2, 3, 4, 5, 6, 7, 8, 9, 10, 11, 12, 13, 14, 15, 16, 17, 18, 19, 20, 21, 22], [0, 1, 2, 3, 4, 5, 6, 7, 8, 9, 10, 11, 12, 13, 14, 15, 16, 17, 18, 19, 20, 21, 22, 23], [0, 1, 2, 3, 4, 5, 6, 7, 8, 9, 10, 11, 12, 13, 14, 15, 16, 17, 18, 19, 20, 21, 22, 23, 24], [0, 1, 2, 3, 4, 5, 6, 7, 8, 9, 10, 11, 12, 13, 14, 15, 16, 17, 18, 19, 20, 21, 22, 23, 24, 25], [0, 1, 2, 3, 4, 5, 6, 7, 8, 9, 10, 11, 12, 13, 14, 15, 16, 17, 18, 19], [0, 1, 2, 3, 4, 5, 6, 7, 8, 9, 10, 11, 12, 13, 14, 15, 16, 17, 18, 19, 27], [0, 1, 2, 3, 4, 5, 6, 7, 8, 9, 10, 11, 12, 13, 14, 15, 16, 17, 18, 19, 27, 28], [0, 1, 2, 3, 4, 5, 6, 7, 8, 9, 10, 11, 12, 13, 14, 15, 16, 17, 18, 19, 20, 21, 22, 23, 24, 25, 26, 27, 28, 29], [0, 1, 2, 3, 4, 5, 6, 7, 8, 9, 10, 11, 12, 13, 14, 15, 16, 17, 18, 19, 20, 21, 22, 23, 24, 25, 26, 27, 28, 29, 30], [0, 1, 2, 3, 4, 5, 6, 7, 8, 9, 10, 11, 12, 13, 14, 15, 16, 17, 18, 19, 20, 21, 22, 23, 24, 25, 26, 27, 28, 29, 30, 31]] [0, 1, 2, 3, 4, 5, 6, 7, 8, 9, 10, 11, 12, 13, 14, 15, 16, 17, 18, 19, 20, 21, 22, 23, 24, 25, 26, 27, 28, 29] (fun Lf σ V => Below w3.heap.size w3 V) mixed rfl (by kernel_rfl) (by decide) (by decide) (by decide) below_drew rfl ?_
                iterate 30 apply Exists.intro
                refine ⟨rfl, ?_, ?_⟩
                · simp only [List.take_succ_cons, List.take_zero, AllFrom.cons_eq, AllFrom.nil_eq, OpGoalK]
                  refine ⟨?_, ?_, ?_, ?_, ?_, ?_, ?_, ?_, ?_, ?_, ?_, ?_, ?_, ?_, ?_, ?_, ?_, ?_, ?_, ?_, ?_, ?_, ?_, ?_, ?_, ?_, ?_, ?_, ?_, ?_, trivial⟩
                  all_goals (intro L' σ V h1 h2 h3 hI hp; have HA1 := Lib.hid h1; have HA2 := Lib.hid h2; have HA3 := Lib.hid h3; clear h1 h2 h3; (try simp only [List.getD_cons_zero, List.getD_cons_succ, preK_cons, preK_nil] at hp); (try simp only [List.mem_cons, List.not_mem_nil, or_false, eq_self, Nat.reduceEqDiff, Nat.reduceAdd, Nat.zero_add, false_or, true_or, true_and, and_true] at hp); (first | (have hq : True := hp; clear hq hp) | skip); have HI := Lib.hid hI; clear hI)
                  all_goals (
                    have hzV := (Mod.ofBelow HI.out).keep Hz3.out (by simp)
                    have r0 := blk_cell hzV 0
                    have r1 := blk_cell hzV 1
                    have r2 := blk_cell hzV 2
                    have r3 := blk_cell hzV 3
                    have r4 := blk_cell hzV 4
                    have r5 := blk_cell hzV 5
                    have r6 := blk_cell hzV 6
                    have r7 := blk_cell hzV 7
                    have r8 := blk_cell hzV 8
                    have r9 := blk_cell hzV 9
                    have r10 := blk_cell hzV 10
                    simp only [List.getElem?_toArray, List.getElem?_cons_zero, List.getElem?_cons_succ] at r0 r1 r2 r3 r4 r5 r6 r7 r8 r9 r10
                    have rl := blk_lt hzV
                    have c0 := (HI.out.cell (p := ⟨ab, ao + k * 11, none⟩) Hg3.out).trans Hc3.out
                    have hgl := Nat.lt_of_lt_of_le Hg3.out HI.out.size
                    clear hzV)
                  · (go_simp; exact ⟨.inr rfl, HI.out⟩)
                  · (go_simp; exact ⟨.inr rfl, HI.out⟩)
                  · (go_simp; exact ⟨.inr rfl, HI.out⟩)
                  · (first | (go_simp; refine (outside_any _ _ _ _).mono ?_; rintro e V' ⟨rfl, rfl⟩; rw [H1.out]; exact ⟨_, rfl, .inr rfl, HI.out⟩) | (go_simp; exact ⟨.inr rfl, HI.out⟩))
                  · (go_simp; exact ⟨.inr rfl, HI.out⟩)
                  · (go_simp; exact ⟨.inr rfl, HI.out⟩)
                  · (go_simp; exact ⟨.inr rfl, HI.out⟩)
                  · (go_simp; exact ⟨.inr rfl, HI.out⟩)
                  · (first | (go_simp; refine (outside_any _ _ _ _).mono ?_; rintro e V' ⟨rfl, rfl⟩; rw [H2.out]; exact ⟨_, rfl, .inr rfl, HI.out⟩) | (go_simp; exact ⟨.inr rfl, HI.out⟩))
                  · (go_simp; exact ⟨.inr rfl, HI.out⟩)
                  · (go_simp; exact ⟨.inr rfl, HI.out⟩)
                  · (go_simp; exact ⟨.inr rfl, HI.out⟩)
                  · (go_simp; exact ⟨.inr rfl, HI.out⟩)
                  · (first | (go_simp; refine (beastCheck_any K a0 a1 a2 a3 a4 a5 a6 a7 _).mono ?_; rintro e V' ⟨rfl, hb⟩; rw [H3.out]; exact ⟨_, rfl, .inr rfl, HI.out.trans (hb.mono HI.out.size)⟩) | (go_simp; exact ⟨.inr rfl, HI.out⟩))
                  · (go_simp; exact ⟨.inr rfl, HI.out⟩)
                  · (go_simp; exact ⟨.inr rfl, HI.out⟩)
                  · (go_simp; exact ⟨.inr rfl, HI.out⟩)
                  · (go_simp; exact ⟨.inr rfl, HI.out⟩)
                  · (go_simp; exact ⟨.inr rfl, HI.out⟩)
                  · (go_simp; exact ⟨.inr rfl, HI.out⟩)
                  · (go_simp; exact ⟨.inr rfl, HI.out⟩)
                  · (go_simp; exact ⟨.inr rfl, HI.out⟩)
                  · (go_simp; exact ⟨.inr rfl, HI.out⟩)
                  · (go_simp; exact ⟨.inr rfl, HI.out⟩)
                  · (go_simp; exact ⟨.inr rfl, HI.out⟩)
                  · (go_simp; exact ⟨.inr rfl, HI.out⟩)
                  · (go_simp; exact ⟨.inr rfl, HI.out⟩)
                  · (go_simp; exact ⟨.inr rfl, HI.out⟩)
                  · (go_simp; exact ⟨.inr rfl, HI.out⟩)
                  · (go_simp; exact ⟨.inr rfl, HI.out⟩)
                · intro L' σ V h1 hI hp
                  have hbV := Hb03.out.trans (hI.mono Hb03.out.size)
                  clear h1 hI
                  simp only [preK_cons, preK_nil, List.getD_cons_zero, List.getD_cons_succ] at hp; simp only [List.mem_cons, List.not_mem_nil, or_false, eq_self, Nat.reduceEqDiff, false_or, true_or, true_and, and_true] at hp
                  have HbV := Lib.hid hbV
                  clear hbV
                  simp only [List.drop_succ_cons, List.drop_zero]
                  go_simp
                  clear hp
                  go_wp2_with fail
                  refine ⟨rfl, ?_⟩
                  go_wp2
                  refine bodyPost_ret (v := .bool false) (by unfold results; try go_simp) rfl ?_
                  rw [Hno.out]
                  exact ⟨rfl, HbV.out⟩
                all_goals exact undef
          · have hno2 : mayB l = false := mayB_no hlt (by rw [hoa, e1, e2, decide_eq_false e3]; rfl)
            have Hno := Lib.hid hno2
            obtain ⟨z, hz⟩ : ∃ z, beastE K [a0, a1, a2, a3, a4, a5, a6, a7] = z := ⟨_, rfl⟩
            rw [hz] at e3
            have hzq : (z != 0) = true := by simpa using e3
            have H3 := Lib.hid hz
            clear hoa hpre hp0 e1 e2 e3 hq3 hno2 hz
            go_wp2_with (first | (refine wpList_load_flat rfl 33 (.tmp 10) rfl _ rfl [.int .i64 s, .int .i64 g, .int .i64 K, .int .i64 a0, .int .i64 a1, .int .i64 a2, .int .i64 a3, .int .i64 a4, .int .i64 a5, .int .i64 a6, .int .i64 a7] _ Try.underlying33 rfl (by kernel_rfl) HP.out ?_) | (refine wpList_store_new rfl 33 (.tmp 4) (.tmp 11) rfl wr (ints [0, 0, 0, 0, 0, 0, 0, 0, 0, 0, 0]) [.int .i64 s, .int .i64 g, .int .i64 K, .int .i64 a0, .int .i64 a1, .int .i64 a2, .int .i64 a3, .int .i64 a4, .int .i64 a5, .int .i64 a6, .int .i64 a7] 33 rfl rfl rfl (sz_Row ((s, g), K, a0, a1, a2, a3, a4, a5, a6, a7)) HO.out ?_; rw [show ([.int .i64 s, .int .i64 g, .int .i64 K, .int .i64 a0, .int .i64 a1, .int .i64 a2, .int .i64 a3, .int .i64 a4, .int .i64 a5, .int .i64 a6, .int .i64 a7] : List Value).toArray = #[.int .i64 s, .int .i64 g, .int .i64 K, .int .i64 a0, .int .i64 a1, .int .i64 a2, .int .i64 a3, .int .i64 a4, .int .i64 a5, .int .i64 a6, .int .i64 a7] from rfl, Hw3.out]; clear HO))
            refine wp_planK [] 30 [] [some 12, some 13, some 14, some 15, some 16, some 17, some 18, some 19, some 20, some 21, some 22, some 23, some 24, some 25, some 26, some 27, some 28, some 29, some 30, some 31, some 32, some 33, some 34, some 35, some 36, some 37, some 38, some 39, some 40, some 41, some 42, some 43, some 44] [[], [0], [0, 1], [0, 1, 2], [0, 1, 2, 3], [0, 1, 2, 3, 4], [0, 1, 2, 3, 4, 5], [0, 1, 2, 3, 4, 5, 6], [0, 1, 2, 3, 4, 5, 6, 7], [0, 1, 2, 3, 4, 5, 6, 7, 8], [0, 1, 2, 3, 4, 5, 6, 7, 8, 9], [0, 1, 2, 3, 4, 5, 6, 7, 8, 9, 10], [0, 1, 2, 3, 4, 5, 6, 7, 8, 9, 10, 11], [0, 1, 2, 3, 4, 5, 6, 7, 8, 9, 10, 11, 12], [0, 1, 2, 3, 4, 5, 6, 7, 8, 9, 10, 11, 12, 13], [0, 1, 2, 3, 4, 5, 6, 7, 8, 9, 10, 11, 12, 13, 14], [0, 1, 2, 3, 4, 5, 6, 7, 8, 9, 10, 11, 12, 13, 14, 15], [0, 1, 2, 3, 4, 5, 6, 7, 8, 9, 10, 11, 12, 13, 14, 15, 16], [0, 1, 2, 3, 4, 5, 6, 7, 8, 9, 10, 11, 12, 13, 14, 15, 16, 17], [0, 1, 2, 3, 4, 5, 6, 7, 8, 9, 10, 11, 12, 13, 14, 15, 16, 17, 18], [0, 1, 2, 3, 4, 5, 6, 7, 8, 9, 10, 11, 12, 13, 14, 15, 16, 17, 18, 19], [0, 1, 2, 3, 4, 5, 6, 7, 8, 9, 10, 11, 12, 13, 14, 15, 16, 17, 18, 19], [0, 1, 2, 3, 4, 5, 6, 7, 8, 9, 10, 11, 12, 13, 14, 15, 16, 17, 18, 19, 21], [0, 1, 2, 3, 4, 5, 6, 7, 8, 9, 10, 11, 12, 13, 14, 15, 16, 17, 18, 19, 20, 21, 22], [0, 1, 2, 3, 4, 5, 6, 7, 8, 9, 10, 11, 12, 13, 14, 15, 16, 17, 18, 19, 20, 21, 22, 23], [0, 1, 2, 3, 4, 5, 6, 7, 8, 9, 10, 11, 12, 13, 14, 15, 16, 17, 18, 19, 20, 21, 22, 23, 24], [0, 1, 2, 3, 4, 5, 6, 7, 8, 9, 10, 11, 12, 13, 14, 15, 16, 17, 18, 19, 20, 21, 22, 23, 24, 25], [0, 1, 2, 3, 4, 5, 6, 7, 8, 9, 10, 11, 12, 13, 14, 15, 16, 17, 18, 19], [0, 1, 2, 3, 4, 5, 6, 7, 8, 9, 10, 11, 12, 13, 14, 15, 16, 17, 18, 19, 27], [0, 1, 2, 3, 4, 5, 6, 7, 8, 9, 10, 11, 12, 13, 14, 15, 16, 17, 18, 19, 27, 28], [0, 1, 2, 3, 4, 5, 6, 7, 8, 9, 10, 11, 12, 13, 14, 15, 16, 17, 18, 19, 20, 21, 22, 23, 24, 25, 26, 27, 28, 29], [0, 1, 2, 3, 4, 5, 6, 7, 8, 9, 10, 11, 12, 13, 14, 15, 16, 17, 18, 19, 20, 21, 22, 23, 24, 25, 26, 27, 28, 29, 30], [0, 1, 2, 3, 4, 5, 6, 7, 8, 9, 10, 11, 12, 13, 14, 15, 16, 17, 18, 19, 20, 21, 22, 23, 24, 25, 26, 27, 28, 29, 30, 31]] [0, 1, 2, 3, 4, 5, 6, 7, 8, 9, 10, 11, 12, 13, 14, 15, 16, 17, 18, 19, 20, 21, 22, 23, 24, 25, 26, 27, 28, 29] (fun Lf σ V => Below w3.heap.size w3 V) mixed rfl (by kernel_rfl) (by decide) (by decide) (by decide) below_drew rfl ?_
            iterate 30 apply Exists.intro
            refine ⟨rfl, ?_, ?_⟩
            · simp only [List.take_succ_cons, List.take_zero, AllFrom.cons_eq, AllFrom.nil_eq, OpGoalK]
              refine ⟨?_, ?_, ?_, ?_, ?_, ?_, ?_, ?_, ?_, ?_, ?_, ?_, ?_, ?_, ?_, ?_, ?_, ?_, ?_, ?_, ?_, ?_, ?_, ?_, ?_, ?_, ?_, ?_, ?_, ?_, trivial⟩
              all_goals (intro L' σ V h1 h2 h3 hI hp; have HA1 := Lib.hid h1; have HA2 := Lib.hid h2; have HA3 := Lib.hid h3; clear h1 h2 h3; (try simp only [List.getD_cons_zero, List.getD_cons_succ, preK_cons, preK_nil] at hp); (try simp only [List.mem_cons, List.not_mem_nil, or_false, eq_self, Nat.reduceEqDiff, Nat.reduceAdd, Nat.zero_add, false_or, true_or, true_and, and_true] at hp); (first | (have hq : True := hp; clear hq hp) | skip); have HI := Lib.hid hI; clear hI)
              all_goals (
                have hzV := (Mod.ofBelow HI.out).keep Hz3.out (by simp)
                have r0 := blk_cell hzV 0
                have r1 := blk_cell hzV 1
                have r2 := blk_cell hzV 2
                have r3 := blk_cell hzV 3
                have r4 := blk_cell hzV 4
                have r5 := blk_cell hzV 5
                have r6 := blk_cell hzV 6
                have r7 := blk_cell hzV 7
                have r8 := blk_cell hzV 8
                have r9 := blk_cell hzV 9
                have r10 := blk_cell hzV 10
                simp only [List.getElem?_toArray, List.getElem?_cons_zero, List.getElem?_cons_succ] at r0 r1 r2 r3 r4 r5 r6 r7 r8 r9 r10
                have rl := blk_lt hzV
                clear hzV)
              · (go_simp; exact ⟨.inr rfl, HI.out⟩)
              · (go_simp; exact ⟨.inr rfl, HI.out⟩)
              · (go_simp; exact ⟨.inr rfl, HI.out⟩)
              · (first | (go_simp; refine (outside_any _ _ _ _).mono ?_; rintro e V' ⟨rfl, rfl⟩; rw [H1.out]; exact ⟨_, rfl, .inr rfl, HI.out⟩) | (go_simp; exact ⟨.inr rfl, HI.out⟩))
              · (go_simp; exact ⟨.inr rfl, HI.out⟩)
              · (go_simp; exact ⟨.inr rfl, HI.out⟩)
              · (go_simp; exact ⟨.inr rfl, HI.out⟩)
              · (go_simp; exact ⟨.inr rfl, HI.out⟩)
              · (first | (go_simp; refine (outside_any _ _ _ _).mono ?_; rintro e V' ⟨rfl, rfl⟩; rw [H2.out]; exact ⟨_, rfl, .inr rfl, HI.out⟩) | (go_simp; exact ⟨.inr rfl, HI.out⟩))
              · (go_simp; exact ⟨.inr rfl, HI.out⟩)
              · (go_simp; exact ⟨.inr rfl, HI.out⟩)
              · (go_simp; exact ⟨.inr rfl, HI.out⟩)
              · (go_simp; exact ⟨.inr rfl, HI.out⟩)
              · (first | (go_simp; refine (beastCheck_any K a0 a1 a2 a3 a4 a5 a6 a7 _).mono ?_; rintro e V' ⟨rfl, hb⟩; rw [H3.out]; exact ⟨_, rfl, .inr rfl, HI.out.trans (hb.mono HI.out.size)⟩) | (go_simp; exact ⟨.inr rfl, HI.out⟩))
              · (go_simp; exact ⟨.inr rfl, HI.out⟩)
              · (go_simp; exact ⟨.inr rfl, HI.out⟩)
              · (go_simp; exact ⟨.inr rfl, HI.out⟩)
              · (go_simp; exact ⟨.inr rfl, HI.out⟩)
              · (go_simp; exact ⟨.inr rfl, HI.out⟩)
              · (go_simp; exact ⟨.inr rfl, HI.out⟩)
              · (go_simp; exact ⟨.inr rfl, HI.out⟩)
              · (go_simp; exact ⟨.inr rfl, HI.out⟩)
              · (go_simp; exact ⟨.inr rfl, HI.out⟩)
              · (go_simp; exact ⟨.inr rfl, HI.out⟩)
              · (go_simp; exact ⟨.inr rfl, HI.out⟩)
              · (go_simp; exact ⟨.inr rfl, HI.out⟩)
              · (go_simp; exact ⟨.inr rfl, HI.out⟩)
              · (go_simp; exact ⟨.inr rfl, HI.out⟩)
              · (go_simp; exact ⟨.inr rfl, HI.out⟩)
              · (go_simp; exact ⟨.inr rfl, HI.out⟩)
            · intro L' σ V h1 hI hp
              have hbV := Hb03.out.trans (hI.mono Hb03.out.size)
              clear h1 hI
              simp only [preK_cons, preK_nil, List.getD_cons_zero, List.getD_cons_succ] at hp; simp only [List.mem_cons, List.not_mem_nil, or_false, eq_self, Nat.reduceEqDiff, false_or, true_or, true_and, and_true] at hp
              have HbV := Lib.hid hbV
              clear hbV
              simp only [List.drop_succ_cons, List.drop_zero]
              go_simp
              clear hp
              go_wp2_with fail
              refine ⟨rfl, ?_⟩
              go_wp2
              refine bodyPost_ret (v := .bool false) (by unfold results; try go_simp) rfl ?_
              rw [Hno.out]
              exact ⟨rfl, HbV.out⟩
            all_goals exact undef
    · obtain rfl : n = l.length := by omega
      have hm : mayB l = decide ((l.length : Int) ≤ 60) := by
        unfold mayB
        rw [show (List.range l.length).all (okAt l) = true from List.all_eq_true.2 fun j hj => hno j (List.mem_range.1 hj), Bool.true_and]
        exact decide_eq_decide.2 (by omega)
      have HB := Lib.hid hB; have Hm := Lib.hid hm
      clear hB hm
      clear hno
      go_wp2
      refine bodyPost_ret (v := .bool (decide ((l.length : Int) ≤ 60))) (by unfold results; try go_simp) rfl ?_
      rw [Hm.out]
      exact ⟨rfl, HB.out⟩

end Go.Proofs.Ytfbcdblgfhekpaa
