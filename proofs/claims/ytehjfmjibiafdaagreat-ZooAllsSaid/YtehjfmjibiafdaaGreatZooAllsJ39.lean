import Derived.Test.YtehjfmjibiafdaaGreatZooAllsJ0
import Derived.Test.YtehjfmjibiafdaaGreatZooAllsJ38
/- A part of the proof that the law ZooAlls returns true for every input. -/
namespace Go.Proofs.YtehjfmjibiafdaaGreat
open Go Go.RowKit
attribute [local go_sem] AllFrom.cons_eq AllFrom.nil_eq putF_nil putF_cons wantedL_none wantedL_some OpGoalT OpGoalV OpGoalQ OpGoalA OpGoalK YieldsR preF_nil preF_cons
def OwnP (sl : Sl) (L : List Rw) (B : List Bd) (w : World) (e : Ending) (w' : World) : Prop :=
 ∃ q' F', e = .returned (.pointer (some ⟨q', 0, none⟩)) ∧ RepQ q' sl L B w' F' ∧ (∀ y ∈ F', w.heap.size ≤ y) ∧ Below w.heap.size w w'
theorem repQ_of {w0 V : World} {vg vl vL vB : Value} {sl : Sl} {L : List Rw} {B : List Bd} (hg : V.ownsRow w0.heap.size 3 1 vg sl.length (ints (gensS sl))) (hl : V.ownsRow w0.heap.size 4 1 vl sl.length (bools (livesS sl))) (hL : V.ownsRow w0.heap.size 69 11 vL L.length (L.flatMap rwC)) (hB : V.ownsRow w0.heap.size 84 4 vB B.length (B.flatMap bdC))
  (d1 : ∀ k, vg.ownBlock = some k → vl.ownBlock ≠ some k ∧ vL.ownBlock ≠ some k ∧ vB.ownBlock ≠ some k) (d2 : ∀ k, vl.ownBlock = some k → vL.ownBlock ≠ some k ∧ vB.ownBlock ≠ some k) (d3 : ∀ k, vL.ownBlock = some k → vB.ownBlock ≠ some k) (hb : Below w0.heap.size w0 V) :
  OwnP sl L B w0 (.returned (.pointer (some ⟨V.heap.size, 0, none⟩))) (V.alloc (.cells #[vg, vl, vL, vB] 47)) := by
 have hm : Mod [] V (V.alloc (.cells #[vg, vl, vL, vB] 47)) := Mod.ofBelow ((Below.refl _ _).alloc (Nat.le_refl _) _)
 have Z : ∀ {n m : Nat} {t : TypeId} {v : Value} {xs : List Value}, V.ownsRow w0.heap.size t n v m xs → (V.alloc (.cells #[vg, vl, vL, vB] 47)).ownsRow 0 t n v m xs := fun h => row_base (row_mod h hm (by simp)) (fun _ _ => Nat.zero_le _)
 have lg := row_lt hg; have ll := row_lt hl; have lL := row_lt hL; have lB := row_lt hB
 have og := own_ge hg; have ol := own_ge hl; have oL := own_ge hL; have oB := own_ge hB
 have hs := hb.size
 refine ⟨V.heap.size, ((V.heap.size :: (vg.ownBlock.toList ++ vl.ownBlock.toList)) ++ vL.ownBlock.toList) ++ vB.ownBlock.toList, rfl, ⟨vB, _, ⟨vL, _, ⟨vg, vl, (MapKept.heap_alloc V _).1, Z hg, Z hl, rfl, ?_⟩, Z hL, rfl, ?_⟩, Z hB, rfl, ?_⟩, ?_, hb.alloc hs _⟩
 ·simp only [List.nodup_cons, List.nodup_append, List.mem_append, Option.mem_toList]
  refine ⟨?_, by cases vg.ownBlock <;> simp, by cases vl.ownBlock <;> simp, ?_⟩
  ·rintro (h | h)
   ·have := lg _ h; omega
   ·have := ll _ h; omega
  ·rintro a ha b hb2 rfl
   exact (d1 a ha).1 hb2
 ·simp only [List.cons_append, List.nodup_cons, List.nodup_append, List.mem_append, Option.mem_toList]
  refine ⟨?_, ⟨by cases vg.ownBlock <;> simp, by cases vl.ownBlock <;> simp, ?_⟩, by cases vL.ownBlock <;> simp, ?_⟩
  ·rintro ((h | h) | h)
   ·have := lg _ h; omega
   ·have := ll _ h; omega
   ·have := lL _ h; omega
  ·rintro a ha b hb2 rfl
   exact (d1 a ha).1 hb2
  ·rintro a (ha | ha) b hb2 rfl
   ·exact (d1 a ha).2.1 hb2
   ·exact (d2 a ha).1 hb2
 ·intro y hy
  simp only [List.cons_append, List.mem_cons, List.mem_append, Option.mem_toList] at hy ⊢
  intro hb2
  rcases hy with rfl | (hy | hy) | hy
  ·have := lB _ hb2; omega
  ·exact (d1 y hy).2.2 hb2
  ·exact (d2 y hy).2 hb2
  ·exact d3 y hy hb2
 ·intro y hy
  simp only [List.cons_append, List.mem_cons, List.mem_append, Option.mem_toList] at hy
  rcases hy with rfl | ((hy | hy) | hy) | hy
  ·exact hs
  ·exact og y hy
  ·exact ol y hy
  ·exact oL y hy
  ·exact oB y hy
section
variable {q : Nat} {sl : Sl} {L : List Rw} {B : List Bd} {w : World} {F : List Nat}
set_option maxRecDepth 20000 in
set_option maxHeartbeats 4000000 in
theorem qown_any (h : RepQ q sl L B w F) (hO : ZOk sl L B) : Calls Tryz.prog 76 #[.pointer (some ⟨q, 0, none⟩)] w (OwnP sl L B w) := by
 obtain ⟨vB, FZ, ⟨vL, FS, ⟨vg, vl, g1, g2, g3, -, -⟩, g5, -, -⟩, k2, -, -⟩ := h
 obtain ⟨Ag, cg, rfl, hcg, hLg⟩ := row_lies g2
 obtain ⟨Al, cl, rfl, hcl, hLl⟩ := row_lies g3
 obtain ⟨Ar, cr, rfl, hcr, hLr⟩ := row_lies g5
 obtain ⟨Ab, cb, rfl, hcb, hLb⟩ := row_lies k2
 have hnr := row_none g5; have hnb := row_none k2
 have e1 : sl.length = (gensS sl).length := by unfold gensS; rw [List.length_map]
 have e2 : sl.length = (livesS sl).length := by unfold livesS; rw [List.length_map]
 have hlg : (gensS sl).length ≤ 60 := e1 ▸ hO.w.ok.1
 have hlv : (livesS sl).length ≤ 60 := e2 ▸ hO.w.ok.1
 have hll := hO.w.len; have hbl := hO.len
 have HC1 := Lib.hid (fun V (hb : Below w.heap.size w V) => copyInt_any Ag cg (gensS sl) V.heap.size V hlg ((hLg.below hb).mono hb.size) (Nat.le_refl _))
 have HC4 := Lib.hid (fun V (hb : Below w.heap.size w V) => copyBool_any Al cl (livesS sl) V.heap.size V hlv ((hLl.below hb).mono hb.size) (Nat.le_refl _))
 have HC2 := Lib.hid (fun V (hb : Below w.heap.size w V) => copyR_any Ar cr L V (by omega) ((hLr.below hb).mono hb.size) (fun e => (hnr e).1) (fun e => (hnr e).2))
 have HC3 := Lib.hid (fun V (hb : Below w.heap.size w V) => copyB_any Ab cb B V (by omega) ((hLb.below hb).mono hb.size) (fun e => (hnb e).1) (fun e => (hnb e).2))
 obtain ⟨E1, E2⟩ := hid2 e1 e2
 rw [show (Value.slice Ag sl.length cg) = .slice Ag (gensS sl).length cg by rw [← e1], show (Value.slice Al sl.length cl) = .slice Al (livesS sl).length cl by rw [← e2]] at g1
 have Hg1 := Lib.hid g1
 clear g1
 clear g2 g3 g5 k2 hLg hLl hLr hLb hnr hnb e1 e2 hcg hcl hcr hcb
 go_enter Tryz.func76, Tryz.ntmps76
 go_wp2_with fail
 refine wp_planK [5, 11, 12, 17, 22] 23 [0, 6, 13, 18] [some 3, some 4, some 5, some 6, some 7, some 8, some 9, some 10, some 11, some 12, some 13, some 14, some 15, some 16, some 17, some 18, some 19, some 20, some 21, some 22, some 23, some 24, some 25, some 26, some 27, some 2] [[], [0], [0, 1], [0, 1, 2], [0, 1, 2, 3], [0, 1, 2, 3, 4], [], [6], [6, 7], [6, 7, 8], [6, 7, 8, 9], [0, 1, 2, 3, 4, 5, 6, 7, 8, 9, 10], [0, 1, 2, 3, 4, 5, 6, 7, 8, 9, 10, 11], [], [13], [13, 14], [13, 14, 15], [0, 1, 2, 3, 4, 5, 6, 7, 8, 9, 10, 11, 13, 14, 15, 16], [], [18], [18, 19], [18, 19, 20], [0, 1, 2, 3, 4, 5, 6, 7, 8, 9, 10, 11, 13, 14, 15, 16, 17, 18, 19, 20, 21], [0, 1, 2, 3, 4, 5, 6, 7, 8, 9, 10, 11, 12, 13, 14, 15, 16, 17, 18, 19, 20, 21, 22], [0, 1, 2, 3, 4, 5, 6, 7, 8, 9, 10, 11, 12, 13, 14, 15, 16, 17, 18, 19, 20, 21, 22, 23], [0, 1, 2, 3, 4, 5, 6, 7, 8, 9, 10, 11, 12, 13, 14, 15, 16, 17, 18, 19, 20, 21, 22, 23, 24]] [0, 1, 2, 3, 4, 5, 6, 7, 8, 9, 10, 11, 12, 13, 14, 15, 16, 17, 18, 19, 20, 21, 22] (fun Lf σ W => IOwn w [(5, 3, 1, (gensS sl).length, ints (gensS sl)), (11, 4, 1, (livesS sl).length, bools (livesS sl)), (17, 69, 11, L.length, L.flatMap rwC), (22, 84, 4, B.length, B.flatMap bdC)] Lf σ W) mixed rfl (by kernel_rfl) (by decide) (by decide) (by decide) (IOwn.start below_drew) rfl ?_
 iterate 23 apply Exists.intro
 refine ⟨rfl, ?_, ?_⟩
 ·simp only [List.take_succ_cons, List.take_zero, AllFrom.cons_eq, AllFrom.nil_eq, OpGoalK]
  refine ⟨?_, ?_, ?_, ?_, ?_, ?_, ?_, ?_, ?_, ?_, ?_, ?_, ?_, ?_, ?_, ?_, ?_, ?_, ?_, ?_, ?_, ?_, ?_, trivial⟩
  all_goals (intro L' σ V h1 h2 h3 hI hp; have HA1 := Lib.hid h1; have HA2 := Lib.hid h2; have HA3 := Lib.hid h3; clear h1 h2 h3; (try simp only [List.getD_cons_zero, List.getD_cons_succ, preK_cons, preK_nil] at hp); (try simp only [List.mem_cons, List.not_mem_nil, or_false, eq_self, Nat.reduceEqDiff, Nat.reduceAdd, Nat.zero_add, false_or, true_or, true_and, and_true] at hp); (first | (have hq : True := hp; clear hq hp) | skip); have HI := Lib.hid hI; clear hI)
  all_goals (
   have hqV := (Mod.ofBelow HI.out.b).keep Hg1.out (by simp)
   have z0 := blk_cell hqV 0
   have z1 := blk_cell hqV 1
   have z2 := blk_cell hqV 2
   have z3 := blk_cell hqV 3
   simp only [List.getElem?_toArray, List.getElem?_cons_zero, List.getElem?_cons_succ] at z0 z1 z2 z3
   have zl := blk_lt hqV
   clear hqV)
  iterate 5 · (go_simp; exact ⟨.inr rfl, HI.out.read (by simp) (by decide) _⟩)
  ·go_simp
   refine (HC1.out _ HI.out.b).mono ?_
   rintro e V' ⟨v, rfl, hv, hb⟩
   exact ⟨_, rfl, PostK.mk (c := undef) (.inl (by decide)) (HI.out.got (by decide) hb (fun x hx e => by
    simp only [List.mem_cons, List.not_mem_nil, or_false] at hx
    rcases hx with rfl | rfl | rfl | rfl <;> first | exact hv | (exfalso; revert e; simp)) (fun _ => HA3.out 12 (by decide)))⟩
  iterate 5 · (go_simp; exact ⟨.inr rfl, HI.out.read (by simp) (by decide) _⟩)
  ·go_simp
   refine (HC4.out _ HI.out.b).mono ?_
   rintro e V' ⟨v, rfl, hv, hb⟩
   exact ⟨_, rfl, PostK.mk (c := undef) (.inl (by decide)) (HI.out.got (by decide) hb (fun x hx e => by
    simp only [List.mem_cons, List.not_mem_nil, or_false] at hx
    rcases hx with rfl | rfl | rfl | rfl <;> first | exact hv | (exfalso; revert e; simp)) (fun _ => HA3.out 12 (by decide)))⟩
  ·obtain ⟨A5, c5, s5, -, -⟩ := row_slice (HI.out.i.r (5, _) (List.mem_cons_self ..) (HA2.out 5 (by decide)))
   obtain ⟨A11, c11, s11, -, -⟩ := row_slice (HI.out.i.r (11, _) (List.mem_cons_of_mem _ (List.mem_cons_self ..)) (HA2.out 11 (by decide)))
   have hbo := HI.out.both (by simp) (HA2.out 5 (by decide)) (HA2.out 11 (by decide))
   rw [s5, s11] at hbo
   go_simp
   try simp only [s5, s11]
   try go_simp
   first | exact PostK.mk (c := undef) (.inl (by decide)) hbo | exact ⟨.inl (by decide), hbo⟩
  iterate 4 · (go_simp; exact ⟨.inr rfl, HI.out.read (by simp) (by decide) _⟩)
  ·go_simp
   refine (HC2.out _ HI.out.b).mono ?_
   rintro e V' ⟨v, rfl, hv, hb⟩
   exact ⟨_, rfl, PostK.mk (c := undef) (.inl (by decide)) (HI.out.got (by decide) hb (fun x hx e => by
    simp only [List.mem_cons, List.not_mem_nil, or_false] at hx
    rcases hx with rfl | rfl | rfl | rfl <;> first | exact hv | (exfalso; revert e; simp)) (fun h => absurd h (by decide)))⟩
  iterate 4 · (go_simp; exact ⟨.inr rfl, HI.out.read (by simp) (by decide) _⟩)
  ·go_simp
   refine (HC3.out _ HI.out.b).mono ?_
   rintro e V' ⟨v, rfl, hv, hb⟩
   exact ⟨_, rfl, PostK.mk (c := undef) (.inl (by decide)) (HI.out.got (by decide) hb (fun x hx e => by
    simp only [List.mem_cons, List.not_mem_nil, or_false] at hx
    rcases hx with rfl | rfl | rfl | rfl <;> first | exact hv | (exfalso; revert e; simp)) (fun h => absurd h (by decide)))⟩
 ·intro L' σ V h1 hI hp
  have hr5 := hI.i.r (5, _) (List.mem_cons_self ..) (h1 5 (by decide))
  have hr11 := hI.i.r (11, _) (List.mem_cons_of_mem _ (List.mem_cons_self ..)) (h1 11 (by decide))
  have hr17 := hI.i.r (17, _) (List.mem_cons_of_mem _ (List.mem_cons_of_mem _ (List.mem_cons_self ..))) (h1 17 (by decide))
  have hr22 := hI.i.r (22, _) (List.mem_cons_of_mem _ (List.mem_cons_of_mem _ (List.mem_cons_of_mem _ (List.mem_cons_self ..)))) (h1 22 (by decide))
  have d5_11 := hI.d (5, _) (List.mem_cons_self ..) (11, _) (List.mem_cons_of_mem _ (List.mem_cons_self ..)) (by simp) (h1 5 (by decide)) (h1 11 (by decide))
  have d5_17 := hI.d (5, _) (List.mem_cons_self ..) (17, _) (List.mem_cons_of_mem _ (List.mem_cons_of_mem _ (List.mem_cons_self ..))) (by simp) (h1 5 (by decide)) (h1 17 (by decide))
  have d5_22 := hI.d (5, _) (List.mem_cons_self ..) (22, _) (List.mem_cons_of_mem _ (List.mem_cons_of_mem _ (List.mem_cons_of_mem _ (List.mem_cons_self ..)))) (by simp) (h1 5 (by decide)) (h1 22 (by decide))
  have d11_17 := hI.d (11, _) (List.mem_cons_of_mem _ (List.mem_cons_self ..)) (17, _) (List.mem_cons_of_mem _ (List.mem_cons_of_mem _ (List.mem_cons_self ..))) (by simp) (h1 11 (by decide)) (h1 17 (by decide))
  have d11_22 := hI.d (11, _) (List.mem_cons_of_mem _ (List.mem_cons_self ..)) (22, _) (List.mem_cons_of_mem _ (List.mem_cons_of_mem _ (List.mem_cons_of_mem _ (List.mem_cons_self ..)))) (by simp) (h1 11 (by decide)) (h1 22 (by decide))
  have d17_22 := hI.d (17, _) (List.mem_cons_of_mem _ (List.mem_cons_of_mem _ (List.mem_cons_self ..))) (22, _) (List.mem_cons_of_mem _ (List.mem_cons_of_mem _ (List.mem_cons_of_mem _ (List.mem_cons_self ..)))) (by simp) (h1 17 (by decide)) (h1 22 (by decide))
  have ha := (hI.a (h1 12 (by decide))).2.2
  have hb2 := hI.b
  clear h1 hI
  simp only [preK_cons, preK_nil, List.getD_cons_zero, List.getD_cons_succ] at hp; simp only [List.mem_cons, List.not_mem_nil, or_false, eq_self, Nat.reduceEqDiff, false_or, true_or, true_and, and_true] at hp
  simp only at hr5 hr11 hr17 hr22 d5_11 d5_17 d5_22 d11_17 d11_22 d17_22
  rw [← E1.out] at hr5; rw [← E2.out] at hr11
  have HFin := Lib.hid (repQ_of hr5 hr11 hr17 hr22 (fun k hk => ⟨d5_11 k hk, d5_17 k hk, d5_22 k hk⟩) (fun k hk => ⟨d11_17 k hk, d11_22 k hk⟩) d17_22 hb2)
  generalize hs5 : σ 5 = v5 at *
  generalize hs11 : σ 11 = v11 at *
  generalize hs12 : σ 12 = v12 at *
  generalize hs17 : σ 17 = v17 at *
  generalize hs22 : σ 22 = v22 at *
  subst ha
  obtain ⟨A1, c1, rfl, -, -⟩ := row_slice hr5
  obtain ⟨A2, c2, rfl, -, -⟩ := row_slice hr11
  obtain ⟨A3, c3, rfl, -, -⟩ := row_slice hr17
  obtain ⟨A4, c4, rfl, -, -⟩ := row_slice hr22
  clear hr5 hr11 hr17 hr22 d5_11 d5_17 d5_22 d11_17 d11_22 d17_22 hb2
  simp only [List.drop_succ_cons, List.drop_zero]
  go_simp
  clear hp hs5 hs11 hs12 hs17 hs22
  go_wp2
  refine ⟨rfl, ?_⟩
  go_wp2
  refine bodyPost_ret (v := .pointer (some ⟨V.heap.size, 0, none⟩)) (by unfold results; try go_simp) rfl ?_
  exact HFin.out
 all_goals exact undef
end
end Go.Proofs.YtehjfmjibiafdaaGreat
namespace Go.Proofs.YtehjfmjibiafdaaGreat
open Go Go.RowKit
theorem srchH_cons (h x : Hd) (t : List Hd) (i : Int) : srchH h (x :: t) i = if h.1 = -1 - i then some x else srchH h t (i + 1) := rfl
def MeanP (sp : List Hd) (h : Hd) (is : Bool) (w : World) (e : Ending) (w' : World) : Prop :=
 e = .returned (.tuple #[hdV (meanH sp h is).1, .bool (meanH sp h is).2]) ∧ Below w.heap.size w w'
set_option maxRecDepth 20000 in
set_option maxHeartbeats 2000000 in
theorem meant_self {w : World} {c : Nat} {sp : List Hd} (s g : Int) (is : Bool) (h0 : is = false ∨ 0 ≤ s) :
  Calls Tryz.prog 77 #[.agg #[.int .i64 s, .int .i64 g], .bool is, .pointer (some ⟨c, 0, none⟩)] w (MeanP sp (s, g) is w) := by
 have H := Lib.hid (meanH_self sp (s, g) is h0)
 cases is with
 | false =>
  clear h0
  go_enter Tryz.func77, Tryz.ntmps77
  go_wp2
  refine bodyPost_ret (v := .tuple #[.agg #[.int .i64 s, .int .i64 g], .bool true]) (by unfold results; try go_simp) rfl ?_
  refine ⟨by rw [H.out]; rfl, ?_⟩
  repeat (refine Below.setCell ?_ (by simp) _)
  exact (((Below.refl _ _).alloc (Nat.le_refl _) _).alloc (by simp) _)
 | true =>
  have hs : 0 ≤ s := by simpa using h0
  clear h0
  go_enter Tryz.func77, Tryz.ntmps77
  go_wp2
  refine bodyPost_ret (v := .tuple #[.agg #[.int .i64 s, .int .i64 g], .bool true]) (by unfold results; try go_simp) rfl ?_
  refine ⟨by rw [H.out]; rfl, ?_⟩
  repeat (refine Below.setCell ?_ (by simp) _)
  exact (((Below.refl _ _).alloc (Nat.le_refl _) _).alloc (by simp) _)
set_option maxRecDepth 20000 in
set_option maxHeartbeats 2000000 in
theorem meant_neg {w : World} {c cap : Nat} {A : Option Addr} {sp : List Hd} (hc : w.cell? ⟨c, 0, none⟩ = some (.slice A sp.length cap)) (hcl : c < w.heap.size) (hrow : w.ownsRow 0 41 2 (.slice A sp.length cap) sp.length (sp.flatMap handleC)) (hl : sp.length ≤ 80) (s g : Int) (hs : s < 0) :
  Calls Tryz.prog 77 #[.agg #[.int .i64 s, .int .i64 g], .bool true, .pointer (some ⟨c, 0, none⟩)] w (MeanP sp (s, g) true w) := by
 have hm : meanH sp (s, g) true = ((srchH (s, g) sp 0).getD (s, g), (srchH (s, g) sp 0).isSome) := by
  rw [meanH_srch, if_neg (by simp; omega)]
 obtain ⟨w1, hw1, hb1, hz1, hs1⟩ := box1 w (.cells #[.int .i64 s, .int .i64 g] 41)
 obtain ⟨w2, hw2, hb2, hz2, hs2⟩ := box1 w1 (.cells #[.int .i64 0, .int .i64 0] 41)
 have hz12 := (Mod.ofBelow hb2).keep hz1 (by simp)
 have hb02 := hb1.trans (hb2.mono hb1.size)
 have hc2 : w2.cell? ⟨c, 0, none⟩ = some (.slice A sp.length cap) := (hb02.cell (p := ⟨c, 0, none⟩) hcl).trans hc
 have hge : ¬ (0 : Int) ≤ s := by omega
 have d0 : w1.cell? ⟨w.heap.size, 0, none⟩ = some (.int .i64 s) := by rw [blk_cell hz1]; rfl
 have e0 : w2.cell? ⟨w.heap.size, 0, none⟩ = some (.int .i64 s) := by rw [blk_cell hz12]; rfl
 have hcl2 : c < w2.heap.size := by omega
 have Hs1 := hs1
 obtain ⟨HM, Hb1, Hb2, Hz1, Hz2, Hz12, Hb02, Hrow, Hs2⟩ := hid9 hm hb1 hb2 hz1 hz2 hz12 hb02 hrow hs2
 clear hm hb1 hb2 hz1 hz2 hz12 hb02 hrow hs2
 clear hc hcl
 go_enter Tryz.func77, Tryz.ntmps77
 go_wp2
 clear d0
 go_loopw [19] (fun i wr => ∃ k : Nat, k ≤ sp.length ∧ i = .int .i64 k ∧ srchH (s, g) sp 0 = srchH (s, g) (sp.drop k) k ∧ Below w2.heap.size w2 wr) (fun i _ => sp.length - (Go.RowKit.intOf i).toNat)
 case atStart => exact ⟨0, by omega, rfl, by rw [List.drop_zero]; rfl, Below.refl _ _⟩
 case round =>
  obtain ⟨k, hk, rfl, hno, hbel⟩ := hrel
  have hsz := hbel.size
  have hb0r := Hb02.out.trans (hbel.mono Hb02.out.size)
  have hz1r := (Mod.ofBelow hbel).keep Hz12.out (by simp)
  have hz2r := (Mod.ofBelow hbel).keep (Hs1 ▸ Hz2.out) (by simp)
  have hs2 := Hs2.out
  have hwl : w.heap.size < wr.heap.size ∧ w.heap.size + 1 < wr.heap.size := by omega
  obtain ⟨x0, x1, xl⟩ := cells2 hz1r
  obtain ⟨y0, y1, yl⟩ := cells2 hz2r
  have f0 := blk_free hz2r 0
  have f1 := blk_free hz2r 1
  by_cases hlt : k < sp.length
  ·have hro : wr.ownsRow 0 41 2 (.slice A sp.length cap) sp.length (sp.flatMap handleC) := row_mod Hrow.out (Mod.ofBelow hb0r) (by simp)
   obtain ⟨g0, cap0, cur0, hv, -, -, -⟩ := row_some hro (by omega)
   cases hv
   have hpc := row_piece handleC_len hro hlt 0 (handleC sp[k]) (fun j u hu => by rw [Nat.zero_add]; exact hu)
   have hg0 := row_lt hro g0 rfl
   have hki : (k : Int) < (sp.length : Int) := by omega
   rw [List.drop_eq_getElem_cons hlt] at hno
   rw [srchH_cons] at hno
   generalize sp[k] = x at *
   obtain ⟨s1, g1⟩ := x
   simp only at hno
   obtain ⟨HP, Hb0, Hb⟩ := hid3 hpc hb0r hbel
   clear hpc hb0r hbel hro
   by_cases he : s = -1 - (k : Int)
   ·rw [if_pos he] at hno
    have Hno := Lib.hid hno
    clear hno
    go_wp2_with (refine wpList_load_flat rfl 41 (.tmp 22) rfl _ rfl [.int .i64 s1, .int .i64 g1] _ Tryz.underlying41 rfl (by kernel_rfl) HP.out ?_)
    refine bodyPost_ret (v := .tuple #[.agg #[.int .i64 s1, .int .i64 g1], .bool true]) (by unfold results; try go_simp) rfl ?_
    refine ⟨by rw [HM.out, Hno.out]; rfl, ?_⟩
    refine Below.alloc ?_ (by simp; omega) _
    repeat (refine Below.setCell ?_ (by simp) _)
    exact Hb0.out
   ·rw [if_neg he] at hno
    have Hno := Lib.hid hno
    clear hno
    go_wp2_with (refine wpList_load_flat rfl 41 (.tmp 22) rfl _ rfl [.int .i64 s1, .int .i64 g1] _ Tryz.underlying41 rfl (by kernel_rfl) HP.out ?_)
    go_roundw
    case rel => exact ⟨k + 1, by omega, by go_num, by rw [Hno.out]; simp, Hb.out.alloc (by omega) _⟩
    case measure => simp [Go.RowKit.intOf]; omega
  ·obtain rfl : k = sp.length := by omega
   rw [List.drop_length] at hno
   obtain ⟨Hno, Hb0⟩ := hid2 hno hb0r
   clear hno hb0r
   clear hbel
   go_wp2
   refine bodyPost_ret (v := .tuple #[.agg #[.int .i64 s, .int .i64 g], .bool false]) (by unfold results; try go_simp) rfl ?_
   refine ⟨by rw [HM.out, Hno.out]; rfl, ?_⟩
   repeat (refine Below.setCell ?_ (by simp) _)
   exact Hb0.out
theorem meant_any {w : World} {c cap : Nat} {A : Option Addr} {sp : List Hd} (hc : w.cell? ⟨c, 0, none⟩ = some (.slice A sp.length cap)) (hcl : c < w.heap.size) (hrow : w.ownsRow 0 41 2 (.slice A sp.length cap) sp.length (sp.flatMap handleC)) (hl : sp.length ≤ 80) (s g : Int) (is : Bool) :
  Calls Tryz.prog 77 #[.agg #[.int .i64 s, .int .i64 g], .bool is, .pointer (some ⟨c, 0, none⟩)] w (MeanP sp (s, g) is w) := by
 by_cases h0 : is = false ∨ 0 ≤ s
 ·exact meant_self s g is h0
 ·obtain rfl : is = true := by cases is <;> simp at h0 ⊢
  exact meant_neg hc hcl hrow hl s g (by simp at h0; omega)
end Go.Proofs.YtehjfmjibiafdaaGreat
