import Derived.Test.YtehjfmjibiafdaaGreatZooAllsJ0
import Derived.Test.YtehjfmjibiafdaaGreatZooAllsJ36
import Derived.Test.YtehjfmjibiafdaaGreatZooAllsJ34
/- A part of the proof that the law ZooAlls returns true for every input. -/
namespace Go.Proofs.YtehjfmjibiafdaaGreat
open Go Go.RowKit
attribute [local go_sem] AllFrom.cons_eq AllFrom.nil_eq putF_nil putF_cons wantedL_none wantedL_some OpGoalT OpGoalV OpGoalQ OpGoalA OpGoalK YieldsR preF_nil preF_cons
abbrev Rs := Nat × TypeId × Nat × Nat × List Value
structure IRs (w0 : World) (R : List Rs) (L : Nat → Bool) (σ : Nat → Value) (V : World) : Prop where
 b : Below w0.heap.size w0 V
 r : ∀ x ∈ R, L x.1 = true → V.ownsRow w0.heap.size x.2.1 x.2.2.1 (σ x.1) x.2.2.2.1 x.2.2.2.2
section
variable {w0 V V' : World} {R : List Rs} {L : Nat → Bool} {σ : Nat → Value}
theorem IRs.start (h : Below w0.heap.size w0 V) : IRs w0 R (fun _ => false) σ V := ⟨h, fun _ _ e => (by cases e)⟩
theorem IRs.read (h : IRs w0 R L σ V) {i : Nat} (hi : i ∉ R.map (·.1)) (v : Value) : IRs w0 R (upd L i) (updv σ i v) V := by
 refine ⟨h.b, fun x hx e => ?_⟩
 have hne : x.1 ≠ i := fun e2 => hi (e2 ▸ List.mem_map.2 ⟨x, hx, rfl⟩)
 have e1 : upd L i x.1 = L x.1 := by unfold upd; simp [hne]
 have e2 : updv σ i v x.1 = σ x.1 := by unfold updv; rw [if_neg hne]
 rw [e1] at e
 rw [e2]
 exact h.r x hx e
theorem IRs.got (h : IRs w0 R L σ V) {m : Nat} {v : Value} (hb : Below V.heap.size V V') (hv : ∀ x ∈ R, x.1 = m → V'.ownsRow V.heap.size x.2.1 x.2.2.1 v x.2.2.2.1 x.2.2.2.2) : IRs w0 R (upd L m) (updv σ m v) V' := by
 refine ⟨h.b.trans (hb.mono h.b.size), fun x hx e => ?_⟩
 by_cases hm : x.1 = m
 ·have h1 := hv x hx hm
  have e2 : updv σ m v x.1 = v := by unfold updv; simp [hm]
  rw [e2]
  exact row_base h1 (fun j hj => Nat.le_trans h.b.size (own_ge h1 j hj))
 ·have e1 : upd L m x.1 = L x.1 := by unfold upd; simp [hm]
  have e2 : updv σ m v x.1 = σ x.1 := by unfold updv; rw [if_neg hm]
  rw [e1] at e
  rw [e2]
  exact row_mod (h.r x hx e) (Mod.ofBelow hb) (by simp)
end
theorem matches_zero' (m : Int) : matchesB m 0 0 0 = true := by
 rw [matches_eq (by unfold InR; omega)]
 have h0 : ∀ j, bt 0 j = false := fun j => by simp [bt]
 simp [okTo, anyTo, h0]
theorem rowsM_zero' (L : List Rw) : rowsM L 0 0 0 = L := by
 unfold rowsM
 exact List.filter_eq_self.2 fun x _ => matches_zero' _
theorem row_none {w : World} {B0 E n k : Nat} {A : Option Addr} {c m : Nat} {xs : List Value} {α : Type} {l : List α} (h : w.ownsRow B0 E n (.slice A k c) m xs) (e : A = none) (hl : l.length = m := by rfl) : l = [] ∧ c = 0 := by
 subst e
 rcases h with ⟨-, ⟨h1, h2⟩ | ⟨g, cap, cur, h1, -⟩⟩
 ·simp only [Value.slice.injEq] at h1
  obtain ⟨-, h3, h4⟩ := h1
  exact ⟨List.eq_nil_of_length_eq_zero (by omega), h4⟩
 ·cases h1
def StPost (sl : Sl) (L : List Rw) (B : List Bd) (w : World) (e : Ending) (w' : World) : Prop :=
 ∃ v1 v2 v3, e = .returned (.agg #[v1, v2, v3]) ∧ w'.ownsRow 0 3 1 v1 (gensS sl).length (ints (gensS sl)) ∧ w'.ownsRow 0 69 11 v2 L.length (L.flatMap rwC) ∧ w'.ownsRow 0 84 4 v3 B.length (B.flatMap bdC) ∧ Below w.heap.size w w'
section
variable {z p f q : Nat} {sl : Sl} {L : List Rw} {B : List Bd} {w : World} {F : List Nat}
theorem v_gensA (h : RepV z p f sl L B w F) : ∃ ps, ∀ V, Below w.heap.size w V → V.cell? ⟨z, 0, none⟩ = some (.pointer (some ⟨p, 0, none⟩)) ∧ V.cell? ⟨z, 1, none⟩ = some (.pointer (some ⟨f, 0, none⟩)) ∧ z < V.heap.size ∧ V.cell? ⟨p, 0, none⟩ = some (.pointer (some ⟨ps, 0, none⟩)) ∧ p < V.heap.size ∧ Calls Tryz.prog 37 #[.pointer (some ⟨ps, 0, none⟩)] V (MadeInts V.heap.size (gensS sl) V) := by
 obtain ⟨ps, FS, h1, h2, h3⟩ := h.slots
 refine ⟨ps, fun V hV => ?_⟩
 have hc := (h.below hV).cells
 exact ⟨hc.1, hc.2.1, hc.2.2, (hV.cell (p := ⟨p, 0, none⟩) h2).trans h1, Nat.lt_of_lt_of_le h2 hV.size, gens_any ps sl FS V (h3.mod (Mod.ofBelow hV) (by simp)) h.okW.ok.1⟩
set_option maxRecDepth 20000 in
set_option maxHeartbeats 4000000 in
theorem vstate_any (h : RepV z p f sl L B w F) (hl : B.length ≤ 60) : Calls Tryz.prog 11 #[.pointer (some ⟨z, 0, none⟩)] w (StPost sl L B w) := by
 obtain ⟨w0, hw0, hb0, hz0, hs0⟩ := box1 w (.cells #[.slice none 0 0, .slice none 0 0, .slice none 0 0] 26)
 have h0 := h.below hb0
 obtain ⟨FW, hW⟩ := h0.w_
 have H1 := Lib.hid (wrows_any hW 0 0 0)
 have hc := h0.cells
 have hc0 := hc.1; have hzl := hc.2.2
 obtain ⟨H0, Hb0, Hz0, Hs0⟩ := hid4 h0 hb0 hz0 hs0
 clear h0 hb0 hz0 hs0
 clear hc hW
 go_enter Tryz.func11, Tryz.ntmps11
 go_wp2_with fail
 clear hw0
 refine H1.out.mono ?_
 rintro e w1 ⟨v, rfl, hv, hb1⟩
 rw [show qcheck 0 0 0 = 0 by decide, if_pos rfl, rowsM_zero'] at hv
 rw [show qcheck 0 0 0 = 0 by decide]
 have h1 := H0.out.below hb1
 have hz1 := (Mod.ofBelow hb1).keep Hz0.out (by simp)
 have hb01 := Hb0.out.trans (hb1.mono Hb0.out.size)
 obtain ⟨ps, hA⟩ := v_gensA h1
 obtain ⟨FF, hFF⟩ := h1.f_
 have hBn := fun V (hb : Below w1.heap.size w1 V) => bonds_any (hFF.below hb) (by omega : B.length ≤ 1200000000000)
 obtain ⟨Hr1, Hz1, Hb01, HA, HBn, Hv⟩ := hid6 h1 hz1 hb01 hA hBn hv
 clear h1 hz1 hb01 hA hBn hv
 clear hb1 H1 hc0 hzl hFF
 go_wp2_with fail
 refine wp_planK [7, 13] 14 [0, 8, 9] [some 14, some 15, some 16, some 17, some 18, some 19, some 20, some 21, some 22, some 23, some 24, some 25, some 26, some 27, some 28, none] [[], [0], [0, 1], [0, 1, 2], [0, 1, 2, 3], [0, 1, 2, 3, 4], [0, 1, 2, 3, 4, 5], [0, 1, 2, 3, 4, 5, 6], [], [], [9], [9, 10], [9, 10, 11], [0, 1, 2, 3, 4, 5, 6, 7, 9, 10, 11, 12], [0, 1, 2, 3, 4, 5, 6, 7, 8, 9, 10, 11, 12, 13], [0, 1, 2, 3, 4, 5, 6, 7, 8, 9, 10, 11, 12, 13, 14]] [0, 1, 2, 3, 4, 5, 6, 7, 8, 9, 10, 11, 12, 13] (fun Lf σ W => IRs w1 [(7, 3, 1, (gensS sl).length, ints (gensS sl)), (13, 84, 4, B.length, B.flatMap bdC)] Lf σ W) mixed rfl (by kernel_rfl) (by decide) (by decide) (by decide) (IRs.start below_drew) rfl ?_
 iterate 14 apply Exists.intro
 refine ⟨rfl, ?_, ?_⟩
 ·simp only [List.take_succ_cons, List.take_zero, AllFrom.cons_eq, AllFrom.nil_eq, OpGoalK]
  refine ⟨?_, ?_, ?_, ?_, ?_, ?_, ?_, ?_, ?_, ?_, ?_, ?_, ?_, ?_, trivial⟩
  all_goals (intro L' σ V h1 h2 h3 hI hp; have HA1 := Lib.hid h1; have HA2 := Lib.hid h2; have HA3 := Lib.hid h3; clear h1 h2 h3; (try simp only [List.getD_cons_zero, List.getD_cons_succ, preK_cons, preK_nil] at hp); (try simp only [List.mem_cons, List.not_mem_nil, or_false, eq_self, Nat.reduceEqDiff, Nat.reduceAdd, Nat.zero_add, false_or, true_or, true_and, and_true] at hp); (first | (have hq : True := hp; clear hq hp) | skip); have HI := Lib.hid hI; clear hI)
  all_goals (
   have hA := HA.out V HI.out.b
   have hc0 := hA.1; have hc1 := hA.2.1; have hzl := hA.2.2.1; have hp0 := hA.2.2.2.1; have hpl := hA.2.2.2.2.1
   have HG := Lib.hid hA.2.2.2.2.2
   clear hA)
  iterate 7 · (go_simp; exact ⟨.inr rfl, HI.out.read (by simp) _⟩)
  ·go_simp
   refine (HG.out).mono ?_
   rintro e V' ⟨v, rfl, hv, hb⟩
   exact ⟨_, rfl, PostK.mk (c := undef) (.inl (by decide)) (HI.out.got hb (fun x hx e => by
    simp only [List.mem_cons, List.not_mem_nil, or_false] at hx
    rcases hx with rfl | rfl <;> first | exact hv | (exfalso; revert e; simp)))⟩
  iterate 5 · (go_simp; exact ⟨.inr rfl, HI.out.read (by simp) _⟩)
  ·go_simp
   refine (HBn.out _ HI.out.b).mono ?_
   rintro e V' ⟨v, rfl, hv, hb⟩
   exact ⟨_, rfl, PostK.mk (c := undef) (.inl (by decide)) (HI.out.got hb (fun x hx e => by
    simp only [List.mem_cons, List.not_mem_nil, or_false] at hx
    rcases hx with rfl | rfl <;> first | exact hv | (exfalso; revert e; simp)))⟩
 ·intro L' σ V h1 hI hp
  have hr7 := hI.r _ (List.mem_cons_self ..) (h1 7 (by decide))
  have hr13 := hI.r _ (List.mem_cons_of_mem _ (List.mem_cons_self ..)) (h1 13 (by decide))
  have hb2 := hI.b
  clear h1 hI
  simp only [preK_cons, preK_nil, List.getD_cons_zero, List.getD_cons_succ] at hp; simp only [List.mem_cons, List.not_mem_nil, or_false, eq_self, Nat.reduceEqDiff, false_or, true_or, true_and, and_true] at hp
  simp only at hr7 hr13
  have hvV := row_mod Hv.out (Mod.ofBelow hb2) (by simp)
  have hzV := (Mod.ofBelow hb2).keep Hz1.out (by simp)
  have hbV := Hb01.out.trans (hb2.mono Hb01.out.size)
  obtain ⟨c0, c1, c2, cl⟩ := cells3 hzV
  have f0 := blk_free hzV 0
  have f1 := blk_free hzV 1
  have f2 := blk_free hzV 2
  generalize hs7 : σ 7 = v7 at *
  generalize hs13 : σ 13 = v13 at *
  obtain ⟨A7, c7, rfl, -, -⟩ := row_slice hr7
  obtain ⟨A8, c8, rfl, -, -⟩ := row_slice hvV
  obtain ⟨A9, c9, rfl, -, -⟩ := row_slice hr13
  have hne : ∀ x : Nat, w1.heap.size ≤ x → w.heap.size ≠ x := fun x hx => by have := Hb01.out.size; have := Hs0.out; have := blk_lt Hz1.out; omega
  have HFin := Lib.hid (fun V' (hm : Mod [w.heap.size] V V') => (⟨row_base (row_mod hr7 hm (fun k hk e => hne k (own_ge hr7 k hk) (by simp at e; exact e.symm))) (fun _ _ => Nat.zero_le _), row_base (row_mod hvV hm (fun k hk e => by have h1 := own_ge Hv.out k (by simpa using hk); have := Hs0.out; simp at e; omega)) (fun _ _ => Nat.zero_le _), row_base (row_mod hr13 hm (fun k hk e => hne k (own_ge hr13 k hk) (by simp at e; exact e.symm))) (fun _ _ => Nat.zero_le _), hbV.trans (hm.toBelow (by simp) hbV.size)⟩ : _ ∧ _ ∧ _ ∧ Below w.heap.size w V'))
  clear hr7 hr13 hvV hzV hb2 hne
  have HbV := Lib.hid hbV
  clear hbV
  simp only [List.drop_succ_cons, List.drop_zero]
  go_simp
  clear hp
  clear hs7 hs13
  go_wp2
  refine ⟨rfl, ?_⟩
  go_wp2
  refine bodyPost_ret (v := .agg #[.slice A7 (gensS sl).length c7, .slice A8 L.length c8, .slice A9 B.length c9]) (by unfold results; try go_simp) rfl ?_
  refine ⟨_, _, _, rfl, HFin.out _ ?_⟩
  repeat (refine Mod.setCell ?_ (.inl (by simp)) _)
  exact Mod.refl _ _
set_option maxRecDepth 20000 in
set_option maxHeartbeats 4000000 in
theorem qstate_any (h : RepQ q sl L B w F) (hO : ZOk sl L B) : Calls Tryz.prog 12 #[.pointer (some ⟨q, 0, none⟩)] w (StPost sl L B w) := by
 obtain ⟨w0, hw0, hb0, hz0, hs0⟩ := box1 w (.cells #[.slice none 0 0, .slice none 0 0, .slice none 0 0] 26)
 have h0 := h.below hb0
 obtain ⟨vB, FZ, ⟨vL, FS, ⟨vg, vl, g1, g2, g3, -, -⟩, g5, -, -⟩, k2, -, -⟩ := h0
 obtain ⟨Ag, cg, rfl, hcg, hLg⟩ := row_lies g2
 obtain ⟨Ar, cr, rfl, hcr, hLr⟩ := row_lies g5
 obtain ⟨Ab, cb, rfl, hcb, hLb⟩ := row_lies k2
 have hnr := row_none g5; have hnb := row_none k2
 have hlg : (gensS sl).length ≤ 60 := by unfold gensS; rw [List.length_map]; exact hO.w.ok.1
 have e1 : sl.length = (gensS sl).length := by unfold gensS; rw [List.length_map]
 rw [e1] at g1 hcg
 have hll := hO.w.len; have hbl := hO.len
 have HC1 := Lib.hid (fun V (hb : Below w0.heap.size w0 V) => copyInt_any Ag cg (gensS sl) V.heap.size V hlg ((hLg.below hb).mono hb.size) (Nat.le_refl _))
 have HC2 := Lib.hid (fun V (hb : Below w0.heap.size w0 V) => copyR_any Ar cr L V (by omega) ((hLr.below hb).mono hb.size) (fun e => (hnr e).1) (fun e => (hnr e).2))
 have HC3 := Lib.hid (fun V (hb : Below w0.heap.size w0 V) => copyB_any Ab cb B V (by omega) ((hLb.below hb).mono hb.size) (fun e => (hnb e).1) (fun e => (hnb e).2))
 obtain ⟨Hb0, Hz0, Hs0, Hg1⟩ := hid4 hb0 hz0 hs0 g1
 clear hb0 hz0 hs0 g1
 clear g2 g3 g5 k2 hLg hLr hLb hnr hnb e1 hcg hcr hcb
 go_enter Tryz.func12, Tryz.ntmps12
 go_wp2_with fail
 clear hw0
 refine wp_planK [5, 10, 15] 16 [0, 6, 11] [some 3, some 4, some 5, some 6, some 7, some 8, some 9, some 10, some 11, some 12, some 13, some 14, some 15, some 16, some 17, some 18, some 19, none] [[], [0], [0, 1], [0, 1, 2], [0, 1, 2, 3], [0, 1, 2, 3, 4], [], [6], [6, 7], [6, 7, 8], [0, 1, 2, 3, 4, 5, 6, 7, 8, 9], [], [11], [11, 12], [11, 12, 13], [0, 1, 2, 3, 4, 5, 6, 7, 8, 9, 10, 11, 12, 13, 14], [0, 1, 2, 3, 4, 5, 6, 7, 8, 9, 10, 11, 12, 13, 14, 15], [0, 1, 2, 3, 4, 5, 6, 7, 8, 9, 10, 11, 12, 13, 14, 15, 16]] [0, 1, 2, 3, 4, 5, 6, 7, 8, 9, 10, 11, 12, 13, 14, 15] (fun Lf σ W => IRs w0 [(5, 3, 1, (gensS sl).length, ints (gensS sl)), (10, 69, 11, L.length, L.flatMap rwC), (15, 84, 4, B.length, B.flatMap bdC)] Lf σ W) mixed rfl (by kernel_rfl) (by decide) (by decide) (by decide) (IRs.start below_drew) rfl ?_
 iterate 16 apply Exists.intro
 refine ⟨rfl, ?_, ?_⟩
 ·simp only [List.take_succ_cons, List.take_zero, AllFrom.cons_eq, AllFrom.nil_eq, OpGoalK]
  refine ⟨?_, ?_, ?_, ?_, ?_, ?_, ?_, ?_, ?_, ?_, ?_, ?_, ?_, ?_, ?_, ?_, trivial⟩
  all_goals (intro L' σ V h1 h2 h3 hI hp; have HA1 := Lib.hid h1; have HA2 := Lib.hid h2; have HA3 := Lib.hid h3; clear h1 h2 h3; (try simp only [List.getD_cons_zero, List.getD_cons_succ, preK_cons, preK_nil] at hp); (try simp only [List.mem_cons, List.not_mem_nil, or_false, eq_self, Nat.reduceEqDiff, Nat.reduceAdd, Nat.zero_add, false_or, true_or, true_and, and_true] at hp); (first | (have hq : True := hp; clear hq hp) | skip); have HI := Lib.hid hI; clear hI)
  all_goals (
   have hqV := (Mod.ofBelow HI.out.b).keep Hg1.out (by simp)
   have z0 := blk_cell hqV 0
   have z1 := blk_cell hqV 1
   have z2 := blk_cell hqV 2
   have z3 := blk_cell hqV 3
   simp only [List.getElem?_toArray, List.getElem?_cons_zero, List.getElem?_cons_succ] at z0 z1 z2 z3
   have zl := blk_lt hqV
   clear hqV)
  iterate 5 · (go_simp; exact ⟨.inr rfl, HI.out.read (by simp) _⟩)
  ·go_simp
   refine (HC1.out _ HI.out.b).mono ?_
   rintro e V' ⟨v, rfl, hv, hb⟩
   exact ⟨_, rfl, PostK.mk (c := undef) (.inl (by decide)) (HI.out.got hb (fun x hx e => by
    simp only [List.mem_cons, List.not_mem_nil, or_false] at hx
    rcases hx with rfl | rfl | rfl <;> first | exact hv | (exfalso; revert e; simp)))⟩
  iterate 4 · (go_simp; exact ⟨.inr rfl, HI.out.read (by simp) _⟩)
  ·go_simp
   refine (HC2.out _ HI.out.b).mono ?_
   rintro e V' ⟨v, rfl, hv, hb⟩
   exact ⟨_, rfl, PostK.mk (c := undef) (.inl (by decide)) (HI.out.got hb (fun x hx e => by
    simp only [List.mem_cons, List.not_mem_nil, or_false] at hx
    rcases hx with rfl | rfl | rfl <;> first | exact hv | (exfalso; revert e; simp)))⟩
  iterate 4 · (go_simp; exact ⟨.inr rfl, HI.out.read (by simp) _⟩)
  ·go_simp
   refine (HC3.out _ HI.out.b).mono ?_
   rintro e V' ⟨v, rfl, hv, hb⟩
   exact ⟨_, rfl, PostK.mk (c := undef) (.inl (by decide)) (HI.out.got hb (fun x hx e => by
    simp only [List.mem_cons, List.not_mem_nil, or_false] at hx
    rcases hx with rfl | rfl | rfl <;> first | exact hv | (exfalso; revert e; simp)))⟩
 ·intro L' σ V h1 hI hp
  have hr5 := hI.r _ (List.mem_cons_self ..) (h1 5 (by decide))
  have hr10 := hI.r _ (List.mem_cons_of_mem _ (List.mem_cons_self ..)) (h1 10 (by decide))
  have hr15 := hI.r _ (List.mem_cons_of_mem _ (List.mem_cons_of_mem _ (List.mem_cons_self ..))) (h1 15 (by decide))
  have hb2 := hI.b
  clear h1 hI
  simp only [preK_cons, preK_nil, List.getD_cons_zero, List.getD_cons_succ] at hp; simp only [List.mem_cons, List.not_mem_nil, or_false, eq_self, Nat.reduceEqDiff, false_or, true_or, true_and, and_true] at hp
  simp only at hr5 hr10 hr15
  have hzV := (Mod.ofBelow hb2).keep Hz0.out (by simp)
  have hbV := Hb0.out.trans (hb2.mono Hb0.out.size)
  obtain ⟨c0, c1, c2, cl⟩ := cells3 hzV
  have f0 := blk_free hzV 0
  have f1 := blk_free hzV 1
  have f2 := blk_free hzV 2
  generalize hs5 : σ 5 = v5 at *
  generalize hs10 : σ 10 = v10 at *
  generalize hs15 : σ 15 = v15 at *
  obtain ⟨A7, c7, rfl, -, -⟩ := row_slice hr5
  obtain ⟨A8, c8, rfl, -, -⟩ := row_slice hr10
  obtain ⟨A9, c9, rfl, -, -⟩ := row_slice hr15
  have hne : ∀ x : Nat, w0.heap.size ≤ x → w.heap.size ≠ x := fun x hx => by have := Hs0.out; omega
  have HFin := Lib.hid (fun V' (hm : Mod [w.heap.size] V V') => (⟨row_base (row_mod hr5 hm (fun k hk e => hne k (own_ge hr5 k hk) (by simp at e; exact e.symm))) (fun _ _ => Nat.zero_le _), row_base (row_mod hr10 hm (fun k hk e => hne k (own_ge hr10 k hk) (by simp at e; exact e.symm))) (fun _ _ => Nat.zero_le _), row_base (row_mod hr15 hm (fun k hk e => hne k (own_ge hr15 k hk) (by simp at e; exact e.symm))) (fun _ _ => Nat.zero_le _), hbV.trans (hm.toBelow (by simp) hbV.size)⟩ : _ ∧ _ ∧ _ ∧ Below w.heap.size w V'))
  clear hr5 hr10 hr15 hzV hb2 hne hbV
  simp only [List.drop_succ_cons, List.drop_zero]
  go_simp
  clear hp
  clear hs5 hs10 hs15
  go_wp2
  refine ⟨rfl, ?_⟩
  go_wp2
  refine bodyPost_ret (v := .agg #[.slice A7 (gensS sl).length c7, .slice A8 L.length c8, .slice A9 B.length c9]) (by unfold results; try go_simp) rfl ?_
  refine ⟨_, _, _, rfl, HFin.out _ ?_⟩
  repeat (refine Mod.setCell ?_ (.inl (by simp)) _)
  exact Mod.refl _ _
end
end Go.Proofs.YtehjfmjibiafdaaGreat
namespace Go.Proofs.YtehjfmjibiafdaaGreat
open Go Go.RowKit
theorem tw_all {α : Type} {p : α → Bool} : ∀ {l : List α}, (∀ x ∈ l, p x = true) → l.takeWhile p = l
 | [], _ => rfl
 | x :: l, h => by rw [List.takeWhile_cons_of_pos (h x (by simp)), tw_all (fun y hy => h y (List.mem_cons_of_mem _ hy))]
theorem rows_unique : ∀ {l m : List Rw}, l.Pairwise (fun a b => a.1.1 < b.1.1) → m.Pairwise (fun a b => a.1.1 < b.1.1) → (∀ r, r ∈ l ↔ r ∈ m) → l = m
 | [], [], _, _, _ => rfl
 | [], k :: ks, _, _, hm => absurd ((hm k).2 (by simp)) (by simp)
 | h :: hs, [], _, _, hm => absurd ((hm h).1 (by simp)) (by simp)
 | h :: hs, k :: ks, h1, h2, hm => by
  obtain ⟨a1, a2⟩ := List.pairwise_cons.1 h1
  obtain ⟨b1, b2⟩ := List.pairwise_cons.1 h2
  have e : h = k := by
   rcases List.mem_cons.1 ((hm h).1 (by simp)) with e | e
   ·exact e
   ·rcases List.mem_cons.1 ((hm k).2 (by simp)) with e2 | e2
    ·exact e2.symm
    ·have := a1 k e2; have := b1 h e; omega
  subst e
  rw [rows_unique a2 b2 (fun x => ?_)]
  constructor
  ·intro hx
   rcases List.mem_cons.1 ((hm x).1 (List.mem_cons_of_mem _ hx)) with e | e
   ·subst e; have := a1 _ hx; omega
   ·exact e
  ·intro hx
   rcases List.mem_cons.1 ((hm x).2 (List.mem_cons_of_mem _ hx)) with e | e
   ·subst e; have := b1 _ hx; omega
   ·exact e
section
variable {sl : Sl} {L : List Rw} {B : List Bd}
theorem slot_live (h : WOk sl L) (n : Nat) (hn : n < sl.length) : hasB (slotsOf L) (n : Int) = sl[n].2 := by
 have key : hasB (slotsOf L) (n : Int) = true ↔ sl[n].2 = true := by
  rw [hasB_iff]
  unfold slotsOf
  rw [List.mem_map]
  constructor
  ·rintro ⟨r, hr, e⟩
   have hm : r.1 ∈ allS sl := by rw [← h.hs]; exact List.mem_map.2 ⟨r, hr, rfl⟩
   obtain ⟨j, h1, hj, h2, -⟩ := (mem_allFrom sl 0 r.1.1 r.1.2).1 hm
   have : j = n := by omega
   subst this; exact h2
  ·intro h2
   have hm : ((n : Int), sl[n].1) ∈ allS sl := (mem_allFrom sl 0 _ _).2 ⟨n, by simp, hn, h2, rfl⟩
   rw [← h.hs, List.mem_map] at hm
   obtain ⟨r, hr, e⟩ := hm
   exact ⟨r, hr, by rw [e]⟩
 cases h1 : hasB (slotsOf L) (n : Int) <;> cases h2 : sl[n].2 <;> simp_all
theorem wlS_self (h : WOk sl L) : wlS (gensS sl) L = sl := by
 unfold wlS
 apply List.ext_getElem
 ·rw [loadL_len]; unfold gensS; rw [List.length_map]
 ·intro n h1 h2
  rw [loadL_get, slot_live h n h2]
  unfold gensS
  simp
theorem loadE_self (h : WOk sl L) : loadE (gensS sl) (slotsOf L) = 0 := by
 have hl : (gensS sl).length = sl.length := by unfold gensS; rw [List.length_map]
 have h60 := h.ok.1
 have e1 : anyP badN (gensS sl) = false := anyP_none fun k hk => by
  have hk' : k < sl.length := by omega
  have h3 := h.ok.at_ hk'
  have : (gensS sl)[k] = sl[k].1 := List.getElem_map (fun x : Int × Bool => x.1)
  rw [this]
  exact badN_in h3.1 h3.2.1
 have e2 : anyP (badK (gensS sl).length) (slotsOf L) = false := anyP_none fun k hk => by
  have hk' : k < L.length := by unfold slotsOf at hk; rwa [List.length_map] at hk
  have hm : L[k].1 ∈ allS sl := by rw [← h.hs]; exact List.mem_map.2 ⟨_, List.getElem_mem hk', rfl⟩
  obtain ⟨j, h1, hj, -, -⟩ := (mem_allFrom sl 0 L[k].1.1 L[k].1.2).1 hm
  have : (slotsOf L)[k] = L[k].1.1 := List.getElem_map (fun r : Rw => r.1.1)
  rw [this]
  unfold badK
  simp only [Bool.or_eq_false_iff, decide_eq_false_iff_not]
  omega
 have e3 : dupB (slotsOf L) = false := by
  unfold dupB
  rw [List.any_eq_false]
  intro j hj hb
  have hj' : j < (slotsOf L).length := List.mem_range.1 hj
  rw [List.getD_eq_getElem?_getD, List.getElem?_eq_getElem hj', Option.getD_some, hasB_iff] at hb
  obtain ⟨i, hi, e⟩ := List.mem_iff_getElem.1 hb
  rw [List.length_take] at hi
  rw [List.getElem_take] at e
  have hjl : j < L.length := by unfold slotsOf at hj'; rwa [List.length_map] at hj'
  have hij : i < j := by omega
  have hs := List.pairwise_iff_getElem.1 h.sorted i j (by omega) hjl hij
  have e1 : (slotsOf L)[i]'(by omega) = L[i].1.1 := List.getElem_map (fun r : Rw => r.1.1)
  have e2 : (slotsOf L)[j] = L[j].1.1 := List.getElem_map (fun r : Rw => r.1.1)
  rw [e1, e2] at e
  omega
 have e4 : anyS (1000000, true) (loadL (gensS sl) (slotsOf L)) = false := by
  rw [show loadL (gensS sl) (slotsOf L) = sl from wlS_self h]
  cases e : anyS (1000000, true) sl with
  | false => rfl
  | true =>
   have := (h.ok.2 _ ((anyS_iff _ _).1 e)).2.2 rfl
   simp at this
 unfold loadE
 rw [if_neg (by omega), if_neg (by rw [e1]; simp), if_neg (by rw [e2]; simp), if_neg (by rw [e3]; simp), if_neg (by rw [e4]; simp)]
theorem wlE_self (h : WOk sl L) : wlE (gensS sl) L = 0 := by
 unfold wlE
 rw [if_neg (by have := h.len; omega), if_neg (by rw [loadE_self h]; simp), wlS_self h]
 exact rowsErr_ok.2 fun r hr => ⟨(h.live _ _).2 ⟨r, hr, rfl⟩, h.be r hr⟩
theorem wlL_self (h : WOk sl L) : wlL (gensS sl) L = L := by
 have hw := wlok_of (wlE_self h)
 exact rows_unique hw.sorted h.sorted (fun r => hw.mem r)
theorem loadB_self (hf : FamOk B) (hl : ∀ b ∈ B, b.1 ∈ allS sl ∧ b.2 ∈ allS sl) : ∀ (Q P : List Bd), P ++ Q = B → loadB sl P Q = (B, 0)
 | [], P, e => by rw [List.append_nil] at e; subst e; rfl
 | x :: Q, P, e => by
  have hx : x ∈ B := by rw [← e]; simp
  have h1 : liveZ sl [x.1, x.2] = true := by
   rw [liveZ_two, (liveB_iff sl _ _).2 (hl x hx).1, (liveB_iff sl _ _).2 (hl x hx).2]; rfl
  have hso := hf.so
  rw [← e] at hso
  have hso' := List.pairwise_append.1 hso
  have hne : ∀ b ∈ P, b.1 ≠ x.1 := fun b hb => ltH_ne (hso'.2.2 b hb x (by simp))
  have h2 : (parB P x.1).isSome = false := by
   unfold parB
   rw [List.find?_eq_none.2 (fun b hb => by simpa using hne b hb)]; rfl
  have hout : outB P x.1 = P := outB_none (by cases hq : parB P x.1 with | none => rfl | some y => rw [hq] at h2; cases h2)
  have hnu : ¬ Up P x.2 x.1 := fun hu => by
   obtain ⟨rk, hr⟩ := hf.ac
   have h3 := hr x hx
   have h4 := Up.le (B := P) (rk := rk) (fun b hb => hr b (by rw [← e]; simp [hb])) hu
   omega
  have h3 : adoE P x.1 x.2 = 0 := by unfold adoE; rw [if_neg hnu]
  have h4 : adoB P x.1 x.2 = P ++ [x] := by
   unfold adoB
   rw [if_neg hnu]
   unfold insB
   simp only
   rw [hout]
   have ht : P.takeWhile (fun b => ltH b.1 x.1) = P := tw_all (fun b hb => hso'.2.2 b hb x (by simp))
   have hd : P.dropWhile (fun b => ltH b.1 x.1) = [] := by
    have := List.takeWhile_append_dropWhile (p := fun b : Bd => ltH b.1 x.1) (l := P)
    rw [ht] at this
    exact List.append_cancel_left (this.trans (List.append_nil P).symm)
   rw [ht, hd]
  rw [loadB_go h1 h2 h3, h4]
  exact loadB_self hf hl Q (P ++ [x]) (by rw [List.append_assoc]; exact e)
theorem load_self (h : ZOk sl L B) (hp : ∀ b ∈ B, b.2 ∈ allS sl) : zlE (gensS sl) L B = 0 ∧ wlS (gensS sl) L = sl ∧ wlL (gensS sl) L = L ∧ zlB (gensS sl) L B = B := by
 have h1 := loadB_self (sl := sl) h.f (fun b hb => ⟨h.c b hb, hp b hb⟩) B [] rfl
 have h2 := zlE_run (gs := gensS sl) (rows := L) (bs := B) (B := B) (z := 0) (wlE_self h.w) (by rw [wlS_self h.w]; exact h1)
 exact ⟨h2.1, wlS_self h.w, wlL_self h.w, h2.2⟩
end
end Go.Proofs.YtehjfmjibiafdaaGreat
namespace Go.Proofs.YtehjfmjibiafdaaGreat
open Go Go.RowKit
attribute [local go_sem] AllFrom.cons_eq AllFrom.nil_eq putF_nil putF_cons wantedL_none wantedL_some OpGoalT OpGoalV OpGoalQ OpGoalA OpGoalK YieldsR preF_nil preF_cons
theorem eqRows_self (l : List Rw) (v v' : Value) (w : World) {B B' : Nat} (hl : l.length ≤ 1200000000000) (h : w.ownsRow B 69 11 v l.length (l.flatMap rwC)) (h' : w.ownsRow B' 69 11 v' l.length (l.flatMap rwC)) :
  Calls Tryz.prog 23 #[v, v'] w fun e w' => e = .returned (.bool true) ∧ Below w.heap.size w w' := by
 obtain ⟨A, c, rfl, hc, hA⟩ := own_lies h
 obtain ⟨A', c', rfl, hc', hA'⟩ := own_lies h'
 have := eqRow_any A c A' c' l l w (by omega) (by omega) hA hA'
 rw [eqB_self] at this
 exact this
theorem eqBonds_self (l : List Bd) (v v' : Value) (w : World) {B B' : Nat} (hl : l.length ≤ 1200000000000) (h : w.ownsRow B 84 4 v l.length (l.flatMap bdC)) (h' : w.ownsRow B' 84 4 v' l.length (l.flatMap bdC)) :
  Calls Tryz.prog 36 #[v, v'] w fun e w' => e = .returned (.bool true) ∧ Below w.heap.size w w' := by
 obtain ⟨A, c, rfl, hc, hA⟩ := own_lies h
 obtain ⟨A', c', rfl, hc', hA'⟩ := own_lies h'
 have := eqBond_any A c A' c' l l w (by omega) (by omega) hA hA'
 rw [eqB_self] at this
 exact this
theorem eqInts_self (l : List Int) (v v' : Value) (w : World) {B B' : Nat} (hl : l.length ≤ 1200000000000) (h : w.ownsRow B 3 1 v l.length (ints l)) (h' : w.ownsRow B' 3 1 v' l.length (ints l)) :
  Calls Tryz.prog 35 #[v, v'] w fun e w' => e = .returned (.bool true) ∧ Below w.heap.size w w' := by
 obtain ⟨A, c, rfl, hc, hA⟩ := own_lies h
 obtain ⟨A', c', rfl, hc', hA'⟩ := own_lies h'
 have := eqInt_any A c A' c' l l w.heap.size w.heap.size w (by omega) (by omega) hA hA'
 rw [eqB_self] at this
 exact this.mono fun e w' ⟨he, hw⟩ => ⟨he, hw ▸ Below.refl _ _⟩
set_option maxRecDepth 20000 in
set_option maxHeartbeats 4000000 in
theorem same_any {sl : Sl} {L : List Rw} {B : List Bd} (hO : ZOk sl L B) {v1 v2 v3 u1 u2 u3 : Value} {w : World} (g1 : w.ownsRow 0 3 1 v1 (gensS sl).length (ints (gensS sl))) (g2 : w.ownsRow 0 69 11 v2 L.length (L.flatMap rwC)) (g3 : w.ownsRow 0 84 4 v3 B.length (B.flatMap bdC))
  (k1 : w.ownsRow 0 3 1 u1 (gensS sl).length (ints (gensS sl))) (k2 : w.ownsRow 0 69 11 u2 L.length (L.flatMap rwC)) (k3 : w.ownsRow 0 84 4 u3 B.length (B.flatMap bdC)) :
  Calls Tryz.prog 10 #[.agg #[v1, v2, v3], .agg #[u1, u2, u3]] w fun e w' => e = .returned (.bool true) ∧ Below w.heap.size w w' := by
 obtain ⟨A1, c1, rfl, -, -⟩ := row_slice g1
 obtain ⟨A2, c2, rfl, -, -⟩ := row_slice g2
 obtain ⟨A3, c3, rfl, -, -⟩ := row_slice g3
 obtain ⟨A4, c4, rfl, -, -⟩ := row_slice k1
 obtain ⟨A5, c5, rfl, -, -⟩ := row_slice k2
 obtain ⟨A6, c6, rfl, -, -⟩ := row_slice k3
 have hlg : (gensS sl).length ≤ 60 := by unfold gensS; rw [List.length_map]; exact hO.w.ok.1
 have hll := hO.w.len; have hbl := hO.len
 generalize gensS sl = gs at *
 obtain ⟨w0, hw0, hb0, hz0, hs0⟩ := box1 w (.cells #[.slice A1 gs.length c1, .slice A2 L.length c2, .slice A3 B.length c3] 26)
 obtain ⟨w1, hw1, hb1, hz1, hs1⟩ := box1 w0 (.cells #[.slice A4 gs.length c4, .slice A5 L.length c5, .slice A6 B.length c6] 26)
 have hb01 := hb0.trans (hb1.mono hb0.size)
 have hz01 := (Mod.ofBelow hb1).keep hz0 (by simp)
 have H1 := Lib.hid (fun V (hb : Below w.heap.size w V) => eqInts_self gs _ _ V (by omega) (row_mod g1 (Mod.ofBelow hb) (by simp)) (row_mod k1 (Mod.ofBelow hb) (by simp)))
 have H2 := Lib.hid (fun V (hb : Below w.heap.size w V) => eqRows_self L _ _ V (by omega) (row_mod g2 (Mod.ofBelow hb) (by simp)) (row_mod k2 (Mod.ofBelow hb) (by simp)))
 have H3 := Lib.hid (fun V (hb : Below w.heap.size w V) => eqBonds_self B _ _ V (by omega) (row_mod g3 (Mod.ofBelow hb) (by simp)) (row_mod k3 (Mod.ofBelow hb) (by simp)))
 obtain ⟨a0, a1, a2, al⟩ := cells3 hz01
 obtain ⟨b0, b1, b2, bl⟩ := cells3 hz1
 obtain ⟨Hb01, Hz01, Hz1, Hs0, Hs1⟩ := hid5 hb01 hz01 hz1 hs0 hs1
 clear hb01 hz01 hz1 hs0 hs1
 clear g1 g2 g3 k1 k2 k3 hb0 hb1 hz0
 go_enter Tryz.func10, Tryz.ntmps10
 go_wp2_with fail
 clear hw0 hw1
 refine (H1.out _ Hb01.out).mono ?_
 rintro e w2 ⟨rfl, hb2⟩
 have hz02 := (Mod.ofBelow hb2).keep Hz01.out (by simp)
 have hz12 := (Mod.ofBelow hb2).keep Hz1.out (by simp)
 have hb02 := Hb01.out.trans (hb2.mono Hb01.out.size)
 clear a0 a1 a2 al b0 b1 b2 bl
 obtain ⟨a0, a1, a2, al⟩ := cells3 hz02
 obtain ⟨b0, b1, b2, bl⟩ := cells3 hz12
 obtain ⟨Hz02, Hz12, Hb02⟩ := hid3 hz02 hz12 hb02
 clear hz02 hz12 hb02
 clear hb2
 go_wp2_with fail
 refine (H2.out _ Hb02.out).mono ?_
 rintro e w3 ⟨rfl, hb3⟩
 have hz03 := (Mod.ofBelow hb3).keep Hz02.out (by simp)
 have hz13 := (Mod.ofBelow hb3).keep Hz12.out (by simp)
 have hb03 := Hb02.out.trans (hb3.mono Hb02.out.size)
 clear a0 a1 a2 al b0 b1 b2 bl
 obtain ⟨a0, a1, a2, al⟩ := cells3 hz03
 obtain ⟨b0, b1, b2, bl⟩ := cells3 hz13
 obtain ⟨Hz03, Hz13, Hb03⟩ := hid3 hz03 hz13 hb03
 clear hz03 hz13 hb03
 clear hb3
 go_wp2_with fail
 refine (H3.out _ Hb03.out).mono ?_
 rintro e w4 ⟨rfl, hb4⟩
 have hb04 := Hb03.out.trans (hb4.mono Hb03.out.size)
 have Hb04 := Lib.hid hb04
 clear hb04
 clear hb4
 go_wp2
 go_ret
 exact ⟨rfl, Hb04.out⟩
def NewV (w : World) (e : Ending) (w' : World) : Prop := ∃ z p f F, e = .returned (.pointer (some ⟨z, 0, none⟩)) ∧ RepV z p f [] [] [] w' F ∧ (∀ y ∈ F, w.heap.size ≤ y) ∧ Below w.heap.size w w'
set_option maxRecDepth 20000 in
theorem zooNew_any (w : World) : Calls Tryz.prog 13 #[] w (NewV w) := by
 go_enter Tryz.func13, Tryz.ntmps13
 go_wp2_with fail
 refine (worldNew_any w).mono ?_
 rintro e w1 ⟨p, FW, rfl, hW, hFW, hb1⟩
 obtain ⟨HW, HFW, Hb1⟩ := hid3 hW hFW hb1
 clear hW hFW hb1
 go_wp2_with fail
 refine (famNew_any w1).mono ?_
 rintro e w2 ⟨f, FF, rfl, hF, hFF, hb2⟩
 obtain ⟨w3, hw3, hb3, hz3, hs3⟩ := box1 w2 (.cells #[.pointer (some ⟨p, 0, none⟩), .pointer (some ⟨f, 0, none⟩)] 62)
 have hlW := HW.out.lt; have hlF := hF.lt
 have hs1 := Hb1.out.size; have hs2 := hb2.size
 have hfin : RepV w2.heap.size p f [] [] [] w3 (w2.heap.size :: (FW ++ FF)) := ⟨hz3, FW, FF, (HW.out.below hb2).below hb3, hF.below hb3, rfl, fun e => by have := hlW _ e; omega, fun e => by have := hlF _ e; omega, fun y hy e => by have h1 := hlW y hy; have h2 := hFF y e; omega⟩
 have hge : ∀ y ∈ w2.heap.size :: (FW ++ FF), w.heap.size ≤ y := fun y hy => by
  rcases List.mem_cons.1 hy with rfl | hy
  ·omega
  ·rcases List.mem_append.1 hy with hy | hy
   ·exact HFW.out y hy
   ·have := hFF y hy; omega
 have hb03 := (Hb1.out.trans (hb2.mono hs1)).trans (hb3.mono (by omega))
 obtain ⟨Hfin, Hge, Hb03⟩ := hid3 hfin hge hb03
 clear hfin hge hb03
 clear hb2 hb3 hz3 hs3 hlW hlF hs1 hs2 hF hFF
 go_wp2
 go_ret
 exact ⟨_, _, _, _, rfl, Hfin.out, Hge.out, Hb03.out⟩
abbrev PVQ (Lo : Nat) (Z : List Nat) (z p f q : Nat) (sl : Sl) (L : List Rw) (B : List Bd) (sl' : Sl) (L' : List Rw) (B' : List Bd) (w : World) : Prop := Sep Lo Z (RepV z p f sl L B) (RepQ q sl' L' B') w
section
variable {Lo : Nat} {Z : List Nat} {z p f q : Nat} {sl sl' sl2 : Sl} {L L' L2 : List Rw} {B B' B2 : List Bd} {w : World}
theorem pvq_start {w w1 w2 : World} {F : List Nat} (h : RepV z p f [] [] [] w1 F) (hF : ∀ y ∈ F, w.heap.size ≤ y) (hb : Below w.heap.size w w1) (h2 : w1.alloc (.cells #[.slice none 0 0, .slice none 0 0, .slice none 0 0, .slice none 0 0] 47) = w2) :
  PVQ w.heap.size [] z p f w1.heap.size [] [] [] [] [] [] w2 ∧ Below w.heap.size w w2 := by
 have hlt := h.lt
 have hs := hb.size
 have hb2 : Below w1.heap.size w1 w2 := by rw [← h2]; exact (Below.refl _ _).alloc (Nat.le_refl _) _
 have hq : w2.heap[w1.heap.size]? = some (.cells #[.slice none 0 0, .slice none 0 0, .slice none 0 0, .slice none 0 0] 47 (0, 0)) := by rw [← h2]; exact heap_alloc_new w1 _
 have hr : ∀ E k, w2.ownsRow 0 E k (.slice none 0 0) 0 [] := fun E k => ⟨(Nat.zero_mul k).symm, .inl ⟨rfl, rfl⟩⟩
 refine ⟨⟨F, [w1.heap.size], ⟨h.below hb2, ⟨.slice none 0 0, [w1.heap.size], ⟨.slice none 0 0, [w1.heap.size], ⟨.slice none 0 0, .slice none 0 0, hq, hr _ _, hr _ _, rfl, by simp⟩, hr _ _, by simp [Value.ownBlock], by simp⟩, hr _ _, by simp [Value.ownBlock], by simp [Value.ownBlock]⟩, fun y hy e => ?_, fun y hy => ⟨hF y hy, by simp⟩, fun y hy => ?_, by have := hb2.size; omega, by simp⟩⟩, hb.trans (hb2.mono hs)⟩
 ·have := hlt y hy; simp at e; omega
 ·simp at hy; subst hy; exact ⟨hs, by simp⟩
variable {d K a0 a1 a2 a3 a4 a5 a6 a7 s g ts tg kd n r0 r1 e0 : Int}
end
end Go.Proofs.YtehjfmjibiafdaaGreat
