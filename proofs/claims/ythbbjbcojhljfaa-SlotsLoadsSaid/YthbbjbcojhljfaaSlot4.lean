/- The reference's slots: Free, Take. -/
import Derived.Test.YthbbjbcojhljfaaEqH
namespace Go.Proofs.Ythbbjbcojhljfaa
open Go.RowKit

attribute [local go_sem] AllFrom.cons_eq AllFrom.nil_eq putF_nil putF_cons wantedL_none wantedL_some OpGoalT OpGoalS OpGoalP YieldsR preF_nil preF_cons

/-- The reference's slots, opened at slot n. -/
theorem RepRS.at_ {w : World} {p : Nat} {l : Sl} {F : List Nat} (h : RepRS w p l F) {n : Nat} (hn : n < l.length) : ∃ g0 c0 g1 c1, w.heap[p]? = some (.cells #[.slice (some ⟨g0, 0, none⟩) l.length c0, .slice (some ⟨g1, 0, none⟩) l.length c1] 57 (0, 0)) ∧
    g0 ∈ F ∧ g1 ∈ F ∧ g0 ≠ g1 ∧ g1 ≠ g0 ∧ p ≠ g0 ∧ p ≠ g1 ∧ g0 < w.heap.size ∧ g1 < w.heap.size ∧ w.cell? ⟨g0, n, none⟩ = some (.int .i64 l[n].1) ∧ w.cell? ⟨g1, n, none⟩ = some (.bool l[n].2) ∧ (∀ i, w.frozen? ⟨g0, i, none⟩ = false) ∧ (∀ i, w.frozen? ⟨g1, i, none⟩ = false) ∧
    (∀ g b, RepRS ((w.setCell ⟨g1, n, none⟩ (.bool b)).setCell ⟨g0, n, none⟩ (.int .i64 g)) p (l.set n (g, b)) F) ∧ (∀ b, RepRS (w.setCell ⟨g1, n, none⟩ (.bool b)) p (l.set n (l[n].1, b)) F) := by
  obtain ⟨vg, vl, hp, hg, hl, rfl, hne⟩ := h
  obtain ⟨g0, c0, cur0, rfl, -, hb0, -⟩ := row_some hg (by omega)
  obtain ⟨g1, c1, cur1, rfl, -, hb1, -⟩ := row_some hl (by omega)
  have hne' := hne
  simp [Value.ownBlock] at hne'
  obtain ⟨⟨n1, n2⟩, n3⟩ := hne'
  refine ⟨g0, c0, g1, c1, hp, by simp [Value.ownBlock], by simp [Value.ownBlock], n3, fun e => n3 e.symm, n1, n2, blk_lt hb0, blk_lt hb1, row_cell hg (gens_get l n hn), row_cell hl (lives_get l n hn), blk_free hb0, blk_free hb1, fun g b => ?_, fun b => ?_⟩
  · refine ⟨_, _, ?_, ?_, ?_, rfl, hne⟩
    · rw [blk_set_ne (by simpa using n1), blk_set_ne (by simpa using n2)]; exact hp
    · have h2 := row_set (row_mod hg ((Mod.refl [g1] w).setCell (p := ⟨g1, n, none⟩) (.inl (by simp)) (.bool b)) (by simp [Value.ownBlock, n3])) n (.int .i64 g)
      rw [List.length_set]
      rw [show ints (gensS (l.set n (g, b))) = (ints (gensS l)).set n (.int .i64 g) by simp [ints, gensS, List.map_set]]
      exact h2
    · have h2 := row_mod (row_set hl n (.bool b)) ((Mod.refl [g0] _).setCell (p := ⟨g0, n, none⟩) (.inl (by simp)) (.int .i64 g)) (by simp [Value.ownBlock]; exact fun e => n3 e.symm)
      rw [List.length_set]
      rw [show bools (livesS (l.set n (g, b))) = (bools (livesS l)).set n (.bool b) by simp [bools, livesS, List.map_set]]
      exact h2
  · refine ⟨_, _, ?_, ?_, ?_, rfl, hne⟩
    · rw [blk_set_ne (by simpa using n2)]; exact hp
    · rw [List.length_set]
      rw [show gensS (l.set n (l[n].1, b)) = gensS l by
        have e : (l.map (·.1))[n]'(by simpa using hn) = l[n].1 := by simp
        simp only [gensS, List.map_set]
        rw [← e]
        exact List.set_getElem_self _]
      exact row_mod hg ((Mod.refl [g1] w).setCell (p := ⟨g1, n, none⟩) (.inl (by simp)) (.bool b)) (by simp [Value.ownBlock, n3])
    · have h2 := row_set hl n (.bool b)
      rw [List.length_set]
      rw [show bools (livesS (l.set n (l[n].1, b))) = (bools (livesS l)).set n (.bool b) by simp [bools, livesS, List.map_set]]
      exact h2

set_option maxHeartbeats 1000000 in
theorem rfree_any (p : Nat) (l : Sl) (F : List Nat) (s g : Int) (w : World) (h : RepRS w p l F) (hok : SlOk l) :
    Calls Try.prog 45 #[.pointer (some ⟨p, 0, none⟩), .agg #[.int .i64 s, .int .i64 g]] w fun e w' => e = .returned (.int .i64 (freeE l s g)) ∧ RepRS w' p (freeL l s g) F ∧ Mod F w w' := by
  have hlive := fun w1 (hb : Below w.heap.size w w1) => is_any p l F s g w1 (h.mod (Mod.ofBelow hb) (by simp)) hok.1
  have HL := Lib.hid hlive
  clear hlive
  by_cases hv : liveB l s g = true
  · have hE : freeE l s g = 0 := by unfold freeE; rw [if_pos hv]
    have hF : freeL l s g = l.set s.toNat (g + 1, false) := by unfold freeL; rw [if_pos hv]
    obtain ⟨h0, hk, hx⟩ := liveB_lt hv
    obtain ⟨n, rfl⟩ := Int.eq_ofNat_of_zero_le h0
    simp only [Int.toNat_natCast] at hk hx hF
    have hg := hok.at_ hk
    rw [hx] at hg
    simp only at hg
    have hgb := hg.2.2 trivial
    have hg0 := hg.1
    rw [hv] at HL
    have HE := Lib.hid hE; have HF := Lib.hid hF; have HR := Lib.hid h; have HX := Lib.hid hx
    clear hE hF hx hg h hv hok h0
    go_enter Try.func45, Try.ntmps45
    go_wp2_with fail
    refine (HL.out _ ((Below.refl _ _).alloc (Nat.le_refl _) _)).mono ?_
    rintro e w1 ⟨rfl, hb1⟩
    simp only [World.size_alloc] at hb1
    have d0 : w1.cell? ⟨w.heap.size, 0, none⟩ = some (.int .i64 n) := (hb1.cell (p := ⟨w.heap.size, 0, none⟩) (by simp)).trans (by simp)
    have d1 : w1.cell? ⟨w.heap.size, 1, none⟩ = some (.int .i64 g) := (hb1.cell (p := ⟨w.heap.size, 1, none⟩) (by simp)).trans (by simp)
    have hb := ((Below.refl w.heap.size w).alloc (Nat.le_refl _) (.cells #[.int .i64 n, .int .i64 g] 59)).trans (hb1.mono (by omega))
    obtain ⟨g0, k0, g1, k1, hp, hgF, hgF1, n1, n2, n3, n4, l0, l1, e0, e1, hfz, hfz1, hset, -⟩ := (HR.out.mod (Mod.ofBelow hb) (by simp)).at_ hk
    rw [HX.out] at e0 e1
    simp only at e0 e1
    have hw := wrapSmall (g + 1) (by omega) (by omega)
    have hc := blk_cell hp 0
    have hc1 := blk_cell hp 1
    simp at hc hc1
    have f0 := hfz n
    have f1 := hfz1 n
    have hpl := blk_lt hp
    have hin : (n : Int) < (l.length : Int) := by omega
    have hlt := HR.out.lt
    have n5 : w.heap.size ≠ g1 := by have := hlt g1 hgF1; omega
    have n6 : w.heap.size ≠ g0 := by have := hlt g0 hgF; omega
    have hzl : w.heap.size < w1.heap.size := by have := hb1.size; simp at this; omega
    have HS := Lib.hid (hset (g + 1) false)
    have HB := Lib.hid hb
    have HG := Lib.hid hgF
    have HG1 := Lib.hid hgF1
    clear HL hb1 hset hfz hfz1 hp hb hgF hgF1 hlt
    go_wp2
    refine wp_planS [some 9, some 10, some 11, some 12, some 13, some 14, some 15, none] [[], [0], [0, 1], [0, 1, 2], [], [4], [0, 1, 2, 3, 4, 5], [0, 1, 2, 3, 4, 5, 6]] [0, 1, 2, 3, 4, 5, 6, 7] 8 7 mixed rfl (by kernel_rfl) (by decide) rfl ?_ (by decide)
    iterate 9 apply Exists.intro
    refine ⟨rfl, ?_, ?_⟩
    · simp only [AllFrom.cons_eq, AllFrom.nil_eq, OpGoalS]
      refine ⟨?_, ?_, ?_, ?_, ?_, ?_, ?_, ?_, trivial⟩
      all_goals (intro σ hp; (try simp only [List.getD_cons_zero, List.getD_cons_succ, List.map_cons, List.map_nil, preF_cons, preF_nil, isV, and_true] at hp); (first | (have hq : True := hp; clear hq hp) | skip))
      all_goals (go_simp; exact ⟨rfl, rfl⟩)
    intro σ hp
    simp only [List.getD_cons_zero, List.getD_cons_succ, List.map_cons, List.map_nil, preF_cons, preF_nil, isV, and_true] at hp
    go_simp
    clear hp
    go_wp2
    refine wp_planS [some 16, some 17, some 18, some 19, some 20, some 21, some 22, some 23, some 24, some 25, none] [[], [0], [0, 1], [0, 1, 2], [], [4], [0, 1, 2, 3, 4, 5], [0, 1, 2, 3, 4, 5, 6], [0, 1, 2, 3, 4, 5, 6, 7], [0, 1, 2, 3, 4, 5, 6, 7, 8], [0, 1, 2, 3, 4, 5, 6, 7, 8, 9]] [0, 1, 2, 3, 4, 5, 6, 7, 8, 9, 10] 11 10 mixed rfl (by kernel_rfl) (by decide) rfl ?_ (by decide)
    iterate 12 apply Exists.intro
    refine ⟨rfl, ?_, ?_⟩
    · simp only [AllFrom.cons_eq, AllFrom.nil_eq, OpGoalS]
      refine ⟨?_, ?_, ?_, ?_, ?_, ?_, ?_, ?_, ?_, ?_, ?_, trivial⟩
      all_goals (intro σ hp; (try simp only [List.getD_cons_zero, List.getD_cons_succ, List.map_cons, List.map_nil, preF_cons, preF_nil, isV, and_true] at hp); (first | (have hq : True := hp; clear hq hp) | skip))
      all_goals (go_simp; exact ⟨rfl, rfl⟩)
    intro σ hp
    simp only [List.getD_cons_zero, List.getD_cons_succ, List.map_cons, List.map_nil, preF_cons, preF_nil, isV, and_true] at hp
    go_simp
    clear hp
    go_wp2
    go_ret
    exact ⟨by rw [HE.out]; rfl, by rw [HF.out]; exact HS.out, ((((Mod.ofBelow HB.out).mono (by simp)).setCell (.inl HG1.out) _).setCell (.inl HG.out) _).drew.drew⟩
  · have hE : freeE l s g = 7 := by unfold freeE; rw [if_neg hv]
    have hF : freeL l s g = l := by unfold freeL; rw [if_neg hv]
    rw [Bool.not_eq_true] at hv
    rw [hv] at HL
    have HE := Lib.hid hE; have HF := Lib.hid hF; have HR := Lib.hid h
    clear hE hF h hv hok
    go_enter Try.func45, Try.ntmps45
    go_wp2_with (go_at_call 51; refine (HL.out _ ((Below.refl _ _).alloc (Nat.le_refl _) _)).mono ?_; rintro e w1 ⟨rfl, hb1⟩)
    go_ret
    have hb := ((Below.refl w.heap.size w).alloc (Nat.le_refl _) (.cells #[.int .i64 s, .int .i64 g] 59)).trans (hb1.mono (by simp))
    exact ⟨by rw [HE.out]; rfl, by rw [HF.out]; exact HR.out.mod (Mod.ofBelow hb) (by simp), (Mod.ofBelow hb).mono (by simp)⟩
end Go.Proofs.Ythbbjbcojhljfaa
