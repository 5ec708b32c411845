import Derived.Test.YtehjfmjibiafdaaGreatZooAllsJ0
import Derived.Test.YtehjfmjibiafdaaGreatZooAllsJ31
/- A part of the proof that the law ZooAlls returns true for every input. -/
namespace Go.Proofs.YtehjfmjibiafdaaGreat
open Go Go.RowKit
attribute [local go_sem] AllFrom.cons_eq AllFrom.nil_eq putF_nil putF_cons wantedL_none wantedL_some OpGoalT OpGoalV OpGoalQ OpGoalA OpGoalK YieldsR preF_nil preF_cons
structure IAp (m1 m2 m3 : Nat) (w0 : World) (l : List Hd) (x : Hd) (L : Nat → Bool) (σ : Nat → Value) (V : World) : Prop where
 b : Below w0.heap.size w0 V
 c : L m1 = true → L m3 = false → V.ownsRow w0.heap.size 41 2 (σ m1) l.length (l.flatMap handleC)
 o : L m2 = true → L m3 = false → oneR w0.heap.size (handleC x).toArray 41 (σ m2) V
 a : L m3 = true → V.ownsRow w0.heap.size 41 2 (σ m3) (l ++ [x]).length ((l ++ [x]).flatMap handleC)
section
variable {m1 m2 m3 : Nat} {w0 V V' : World} {l : List Hd} {x : Hd} {L : Nat → Bool} {σ : Nat → Value}
theorem IAp.start (h : Below w0.heap.size w0 V) : IAp m1 m2 m3 w0 l x (fun _ => false) σ V := ⟨h, fun e => (by cases e), fun e => (by cases e), fun e => (by cases e)⟩
theorem IAp.read (h : IAp m1 m2 m3 w0 l x L σ V) {i : Nat} (h1 : m1 ≠ i ∧ m2 ≠ i ∧ m3 ≠ i) (v : Value) : IAp m1 m2 m3 w0 l x (upd L i) (updv σ i v) V := by
 obtain ⟨n1, n2, n3⟩ := h1
 have eL : ∀ j, j ≠ i → upd L i j = L j := fun j hj => by unfold upd; simp [hj]
 have es : ∀ j, j ≠ i → updv σ i v j = σ j := fun j hj => by unfold updv; rw [if_neg hj]
 refine ⟨h.b, ?_, ?_, ?_⟩
 ·rw [eL m1 n1, eL m3 n3, es m1 n1]; exact h.c
 ·rw [eL m2 n2, eL m3 n3, es m2 n2]; exact h.o
 ·rw [eL m3 n3, es m3 n3]; exact h.a
theorem IAp.copied (h : IAp m1 m2 m3 w0 l x L σ V) (h12 : m1 ≠ m2) (h13 : m1 ≠ m3) (hb : Below V.heap.size V V') {v : Value} (hv : V'.ownsRow V.heap.size 41 2 v l.length (l.flatMap handleC)) (h3 : L m3 = false) : IAp m1 m2 m3 w0 l x (upd L m1) (updv σ m1 v) V' := by
 have eL : ∀ j, j ≠ m1 → upd L m1 j = L j := fun j hj => by unfold upd; simp [hj]
 have es : ∀ j, j ≠ m1 → updv σ m1 v j = σ j := fun j hj => by unfold updv; rw [if_neg hj]
 have ev : updv σ m1 v m1 = v := by unfold updv; simp
 have hs := h.b.size
 refine ⟨h.b.trans (hb.mono hs), fun _ _ => ?_, ?_, ?_⟩
 ·rw [ev]
  exact row_base hv (fun k hk => by have := (hv.lt k hk).1; omega)
 ·rw [eL m2 (Ne.symm h12), eL m3 (Ne.symm h13), es m2 (Ne.symm h12)]; exact fun g1 g2 => oneR_mod (h.o g1 g2) (Mod.ofBelow hb) (by simp)
 ·rw [eL m3 (Ne.symm h13), h3]; intro e; cases e
theorem IAp.oned (h : IAp m1 m2 m3 w0 l x L σ V) (h12 : m1 ≠ m2) (h23 : m2 ≠ m3) (h3 : L m3 = false) : IAp m1 m2 m3 w0 l x (upd L m2) (updv σ m2 (.slice (some ⟨V.heap.size, 0, none⟩) 1 1)) (V.alloc (.cells (handleC x).toArray 41)) := by
 have eL : ∀ j, j ≠ m2 → upd L m2 j = L j := fun j hj => by unfold upd; simp [hj]
 have es : ∀ v j, j ≠ m2 → updv σ m2 v j = σ j := fun v j hj => by unfold updv; rw [if_neg hj]
 have ev : ∀ v, updv σ m2 v m2 = v := fun v => by unfold updv; simp
 have hs := h.b.size
 refine ⟨h.b.alloc hs _, ?_, fun _ _ => ?_, ?_⟩
 ·rw [eL m1 h12, eL m3 (Ne.symm h23), es _ m1 h12]; exact fun g1 g2 => row_mod (h.c g1 g2) ((Mod.refl [] V).alloc _) (by simp)
 ·rw [ev]; exact oneR_new hs
 ·rw [eL m3 (Ne.symm h23), h3]; intro e; cases e
theorem IAp.apped (h : IAp m1 m2 m3 w0 l x L σ V) (h13 : m1 ≠ m3) (h23 : m2 ≠ m3) (g1 : L m1 = true) (g3 : L m3 = false) {v : Value} (hg : V.grownBy V' (σ m1).ownBlock) (hv : V'.ownsRow w0.heap.size 41 2 v (l ++ [x]).length ((l ++ [x]).flatMap handleC)) : IAp m1 m2 m3 w0 l x (upd L m3) (updv σ m3 v) V' := by
 have ev : updv σ m3 v m3 = v := by unfold updv; simp
 refine ⟨h.b.trans ((Below.refl w0.heap.size V).grown hg h.b.size (own_ge (h.c g1 g3))), ?_, ?_, fun _ => by rw [ev]; exact hv⟩
 ·intro _ e; simp [upd] at e
 ·intro _ e; simp [upd] at e
end
section
variable {q : Nat} {sl sl' : Sl} {L L' : List Rw} {B B' : List Bd} {w w' : World} {F G : List Nat}
set_option maxRecDepth 20000 in
set_option maxHeartbeats 4000000 in
theorem qdo_kill (h : RepQ q sl L B w F) (hO : ZOk sl L B) (K a0 a1 a2 a3 a4 a5 a6 a7 s g ts tg k n : Int) (hl3 : liveB sl s g = true) :
  Calls Tryz.prog 15 #[.pointer (some ⟨q, 0, none⟩), .agg #[.int .i64 2, .int .i64 K, .int .i64 a0, .int .i64 a1, .int .i64 a2, .int .i64 a3, .int .i64 a4, .int .i64 a5, .int .i64 a6, .int .i64 a7, .int .i64 s, .int .i64 g, .int .i64 ts, .int .i64 tg, .int .i64 k, .int .i64 n]] w (QRet q ((killsZ (sl, L, B) (underB B (s, g) ++ [(s, g)])).1) ((killsZ (sl, L, B) (underB B (s, g) ++ [(s, g)])).2.1) ((killsZ (sl, L, B) (underB B (s, g) ++ [(s, g)])).2.2) F w (.tuple #[.agg #[.int .i64 0, .int .i64 0], .int .i64 0])) := by
 obtain ⟨w0, hw0, hb0, hz0, hs0⟩ := box1 w (.cells #[.int .i64 2, .int .i64 K, .int .i64 a0, .int .i64 a1, .int .i64 a2, .int .i64 a3, .int .i64 a4, .int .i64 a5, .int .i64 a6, .int .i64 a7, .int .i64 s, .int .i64 g, .int .i64 ts, .int .i64 tg, .int .i64 k, .int .i64 n] 52)
 obtain ⟨w1, hw1, hb1, hz1, hs1⟩ := box1 w0 (.cells #[.int .i64 0, .int .i64 0] 41)
 obtain ⟨w2, hw2, hb2, hz2, hs2⟩ := box1 w1 (.cells #[.int .i64 0, .int .i64 0] 41)
 have hb01 := hb0.trans (hb1.mono hb0.size)
 have hb02 := hb01.trans (hb2.mono hb01.size)
 have hz02 := (Mod.ofBelow hb2).keep ((Mod.ofBelow hb1).keep hz0 (by simp)) (by simp)
 have hz12 := (Mod.ofBelow hb2).keep hz1 (by simp)
 have hN0 : w.heap.size ∉ F := fun e => by have := h.lt _ e; omega
 have hN1 : w0.heap.size ∉ F := fun e => by have := h.lt _ e; omega
 have hN2 : w1.heap.size ∉ F := fun e => by have := h.lt _ e; omega
 have h2 := h.below hb02
 obtain ⟨o0, o1, o2, o3, o4, o5, o6, o7, o8, o9, o10, o11, o12, o13, o14, o15, ol⟩ := cells16 hz02
 obtain ⟨H, H2, Hb02, Hz02, Hz12, Hz2, HN0, HN1, HN2, Hs0, Hs1, Hs2, Hw2, HO⟩ := hid14 h h2 hb02 hz02 hz12 hz2 hN0 hN1 hN2 hs0 hs1 hs2 hw2 hO
 clear h h2 hb02 hz02 hz12 hz2 hN0 hN1 hN2 hs0 hs1 hs2 hw2 hO
 clear hb0 hb1 hb2 hz0 hz1 hb01
 obtain ⟨i3, hAt3⟩ := atI_live HO.out.w (s := s) (g := g) hl3
 have hlt3 : decide ((i3 : Int) < 0) = false := by simp
 obtain ⟨HAt3, Hl3⟩ := hid2 hAt3 hl3
 clear hAt3 hl3
 go_enter Tryz.func15, Tryz.ntmps15
 go_wp2_with (first | (refine wpList_store_new rfl 41 (.tmp 6) (.tmp 9) rfl w1 (ints [0, 0]) [.int .i64 0, .int .i64 0] 41 rfl rfl rfl (by kernel_rfl) (handleC_one (0, 0)) ?_; rw [show ([.int .i64 0, .int .i64 0] : List Value).toArray = #[.int .i64 0, .int .i64 0] from rfl, Hw2.out]) | fail)
 clear hw0 hw1
 refine (q_at H2.out HO.out.w s g).mono ?_
 rintro e w3 ⟨rfl, hb3⟩
 rw [HAt3.out]
 have hb03 := Hb02.out.trans (hb3.mono Hb02.out.size)
 have h3 := H2.out.below hb3
 have hz03 := (Mod.ofBelow hb3).keep Hz02.out (by simp)
 have hz13 := (Mod.ofBelow hb3).keep Hz12.out (by simp)
 have hz23 := (Mod.ofBelow hb3).keep Hz2.out (by simp)
 clear o0 o1 o2 o3 o4 o5 o6 o7 o8 o9 o10 o11 o12 o13 o14 o15 ol
 obtain ⟨o0, o1, o2, o3, o4, o5, o6, o7, o8, o9, o10, o11, o12, o13, o14, o15, ol⟩ := cells16 hz03
 have hul := under_len HO.out.f (s, g)
 have hol := HO.out.len
 obtain ⟨us, hus⟩ : ∃ us, underB B (s, g) = us := ⟨_, rfl⟩
 rw [hus] at hul
 have HU := Lib.hid (fun V (hb : Below w3.heap.size w3 V) => (hus ▸ q_under (h3.below hb) HO.out.f HO.out.len s g : Calls Tryz.prog 52 #[.pointer (some ⟨q, 0, none⟩), .agg #[.int .i64 s, .int .i64 g]] V (MadeRecs 41 2 handleC us V)))
 obtain ⟨Hb03, H3, Hz03, Hz13, Hz23, Hul, Hol, Hus⟩ := hid8 hb03 h3 hz03 hz13 hz23 hul hol hus
 clear hb03 h3 hz03 hz13 hz23 hul hol hus
 clear hb3
 go_wp2_with fail
 clear o0 o1 o2 o3 o4 o5 o6 o7 o8 o9 o10 o11 o12 o13 o14 o15 ol
 refine wp_planK [3, 6, 7] 10 [0] [some 81, some 82, some 83, some 84, some 85, some 86, some 87, some 88, some 89, some 90] [[], [], [1], [0, 1, 2], [], [4], [4, 5], [0, 1, 2, 3, 4, 5, 6], [0, 1, 2, 3, 4, 5, 6, 7], []] [0, 1, 2, 3, 4, 5, 6, 7, 8, 9] (fun Lf σ W => IAp 3 6 7 w3 us (s, g) Lf σ W) mixed rfl (by kernel_rfl) (by decide) (by decide) (by decide) (IAp.start below_drew) rfl ?_
 iterate 10 apply Exists.intro
 refine ⟨rfl, ?_, ?_⟩
 ·simp only [List.take_succ_cons, List.take_zero, AllFrom.cons_eq, AllFrom.nil_eq, OpGoalK]
  refine ⟨?_, ?_, ?_, ?_, ?_, ?_, ?_, ?_, ?_, ?_, trivial⟩
  all_goals (intro L' σ V h1 h2 h3 hI hp; have HA1 := Lib.hid h1; have HA2 := Lib.hid h2; have HA3 := Lib.hid h3; clear h1 h2 h3; (try simp only [List.getD_cons_zero, List.getD_cons_succ, preK_cons, preK_nil] at hp); (try simp only [List.mem_cons, List.not_mem_nil, or_false, eq_self, Nat.reduceEqDiff, Nat.reduceAdd, Nat.zero_add, false_or, true_or, true_and, and_true] at hp); (first | (have hq : True := hp; clear hq hp) | skip); have HI := Lib.hid hI; clear hI)
  all_goals (
   have hoV := (Mod.ofBelow HI.out.b).keep Hz03.out (by simp)
   have o0 := blk_cell hoV 0
   have o1 := blk_cell hoV 1
   have o2 := blk_cell hoV 2
   have o3 := blk_cell hoV 3
   have o4 := blk_cell hoV 4
   have o5 := blk_cell hoV 5
   have o6 := blk_cell hoV 6
   have o7 := blk_cell hoV 7
   have o8 := blk_cell hoV 8
   have o9 := blk_cell hoV 9
   have o10 := blk_cell hoV 10
   have o11 := blk_cell hoV 11
   have o12 := blk_cell hoV 12
   have o13 := blk_cell hoV 13
   have o14 := blk_cell hoV 14
   have o15 := blk_cell hoV 15
   simp only [List.getElem?_toArray, List.getElem?_cons_zero, List.getElem?_cons_succ] at o0 o1 o2 o3 o4 o5 o6 o7 o8 o9 o10 o11 o12 o13 o14 o15
   have ol := blk_lt hoV
   clear hoV)
  iterate 3 · (go_simp; exact ⟨.inr rfl, HI.out.read (by decide) _⟩)
  ·go_simp
   refine (HU.out _ HI.out.b).mono ?_
   rintro e V' ⟨v, rfl, hv, hb⟩
   exact ⟨_, rfl, PostK.mk (c := undef) (.inl (by decide)) (HI.out.copied (by decide) (by decide) hb hv (HA3.out 7 (by decide)))⟩
  iterate 2 · (go_simp; exact ⟨.inr rfl, HI.out.read (by decide) _⟩)
  ·go_simp
   exact PostK.mk (c := undef) (.inl (by decide)) (HI.out.oned (by decide) (by decide) (HA3.out 7 (by decide)))
  ·simp only [wantedL_none, if_true]
   have ha7 := HI.out.c (HA2.out 3 (by decide)) HA1.out
   have ha11 := HI.out.o (HA2.out 6 (by decide)) HA1.out
   obtain ⟨Ha7, Ha11⟩ := hid2 ha7 ha11
   have Hlen := Lib.hid (show (us.length + 1) * 16 ≤ 140737488355328 by have := Hul.out; have := Hol.out; omega)
   clear ha7 ha11
   refine yr_app (enc := handleC) (n := 2) (z := .agg #[.int .i64 0, .int .i64 0]) (bytes := 16) (.tmp 84) (.tmp 87) 55 41 rfl Tryz.underlying55 info_handle rfl (by omega) (by omega) handleC_one handleC_len w3.heap.size (σ 3) us (s, g) w3.heap.size (handleC (s, g)).toArray 41 (by go_simp) Ha7.out (by go_simp; exact Ha11.out) rfl Hlen.out HI.out.b.size ?_
   intro v' V' hv hg _
   exact PostK.mk (c := undef) (.inl (by decide)) (HI.out.apped (by decide) (by decide) (HA2.out 3 (by decide)) HA1.out hg hv)
  ·have hr := HI.out.a (HA2.out 7 (by decide))
   obtain ⟨A9, c9, e9, -, -⟩ := row_slice hr
   rw [List.length_append, List.length_singleton] at e9
   go_simp
   exact ⟨.inr rfl, HI.out.read (by decide) _⟩
  ·(go_simp; exact ⟨.inr rfl, HI.out.read (by decide) _⟩)
 ·intro L' σ V h1 hI hp
  have hr := hI.a (h1 7 (by decide))
  have hb7 := hI.b
  have hV := H3.out.below hb7
  have hbV := Hb03.out.trans (hb7.mono Hb03.out.size)
  have hzV1 := (Mod.ofBelow hb7).keep Hz13.out (by simp)
  have hzV2 := (Mod.ofBelow hb7).keep Hz23.out (by simp)
  obtain ⟨hs, hhs⟩ : ∃ hs, us ++ [(s, g)] = hs := ⟨_, rfl⟩
  have hhl : hs.length ≤ 61 := by rw [← hhs, List.length_append, List.length_singleton]; have := Hul.out; have := Hol.out; omega
  have hle : us.length + 1 = hs.length := by rw [← hhs, List.length_append, List.length_singleton]
  have hmk : killsZ (sl, L, B) (underB B (s, g) ++ [(s, g)]) = killsZ (sl, L, B) hs := by rw [Hus.out, hhs]
  rw [hhs] at hr
  clear h1 hI
  simp only [preK_cons, preK_nil, List.getD_cons_zero, List.getD_cons_succ] at hp; simp only [List.mem_cons, List.not_mem_nil, or_false, eq_self, Nat.reduceEqDiff, false_or, true_or, true_and, and_true] at hp
  obtain ⟨A6, c6, e6, -, -⟩ := row_slice hr
  rw [e6] at hr
  have hrF : ∀ j, (Value.slice A6 hs.length c6).ownBlock = some j → j ∉ F := fun j hj e => by
   have h1 := own_ge hr j hj
   have h2 := H3.out.lt j e
   omega
  obtain ⟨HV, HbV, HzV1, HzV2, Hhl, HMk, Hr, HrF, Hb7⟩ := hid9 hV hbV hzV1 hzV2 hhl hmk hr hrF hb7
  clear hV hbV hzV1 hzV2 hhl hmk hr hrF hb7
  simp only [List.drop_succ_cons, List.drop_zero]
  go_simp
  clear hp
  generalize σ 7 = v7 at *
  subst e6
  have hle2 : ((us.length : Int) + 1) = (hs.length : Int) := by omega
  try rw [hle2]
  clear hle hle2 hhs
  go_wp2_with fail
  refine ⟨rfl, ?_⟩
  go_wp2_with fail
  go_loopw [90] (fun i wr => ∃ k : Nat, k ≤ hs.length ∧ i = .int .i64 k ∧ OwnPost (RepQ q (killsZ (sl, L, B) (hs.take k)).1 (killsZ (sl, L, B) (hs.take k)).2.1 (killsZ (sl, L, B) (hs.take k)).2.2) F V wr) (fun i _ => hs.length - (Go.RowKit.intOf i).toNat)
  case atStart => exact ⟨0, by omega, rfl, OwnPost.ofBelow (own_Q _ _ _ _) HV.out (Below.refl _ _)⟩
  case round =>
   obtain ⟨k, hk, rfl, hOP⟩ := hrel
   have hrow := row_mod Hr.out hOP.mod HrF.out
   have hl61 := Hhl.out
   by_cases hlt : k < hs.length
   ·obtain ⟨A7, c7, e7, -, hL7⟩ := row_lies hrow
    cases e7
    obtain ⟨ab, ao, rfl, hal, hc⟩ := hL7.rec_at handleC_len (by omega) hlt
    have hki : (k : Int) < (hs.length : Int) := by omega
    have hst : killsZ (sl, L, B) (hs.take (k + 1)) = killZ (killsZ (sl, L, B) (hs.take k)) hs[k] := by rw [take_succ_get hs k hlt, killsZ_snoc]
    have hok := HO.out.kills (hs.take k)
    generalize killsZ (sl, L, B) (hs.take k) = st at *
    generalize hs[k] = x at *
    obtain ⟨sl1, L1, B1⟩ := st
    obtain ⟨s1, g1⟩ := x
    simp only at hOP hok
    obtain ⟨F1, hR, hT⟩ := hOP
    obtain ⟨w5, hw5, hb4, hz4, hs4⟩ := box1 wr (.cells #[.int .i64 s1, .int .i64 g1] 41)
    have hR4 := hR.below hb4
    have hN1' : wr.heap.size ∉ F1 := fun e => by have := hR.lt _ e; omega
    have hq : ∀ j u, (handleC (s1, g1))[j]? = some u → wr.cell? ((⟨ab, ao + k * 2, none⟩ : Addr).add j) = some u := fun j u hu => by first | exact hc j u hu | (have := hc j u hu; rw [Addr.add_mid]; exact this)
    obtain ⟨HR, HR4, HN1', Hb4, Hz4, Hs4, Hw5, HQ, Hst, HT, Hlt, Hok⟩ := hid12 hR hR4 hN1' hb4 hz4 hs4 hw5 hq hst hT hlt hok
    clear hR hR4 hN1' hb4 hz4 hs4 hw5 hq hst hT hlt hok
    clear hc hrow hL7
    go_wp2_with (first | (refine wpList_load_flat rfl 41 (.tmp 92) rfl _ rfl [.int .i64 s1, .int .i64 g1] _ Tryz.underlying41 rfl (by kernel_rfl) HQ.out ?_) | fail)
    rw [Hw5.out]
    refine (q_kill HR4.out Hok.out.w s1 g1).mono ?_
    rintro e V5 ⟨rfl, hP⟩
    have hzV := hP.mod.keep Hz4.out HN1'.out
    obtain ⟨F2, hR6, hT6⟩ := hP
    have hN2' : wr.heap.size ∉ F2 := fun e => by
     rcases hT6.new _ e with e | e
     ·exact HN1'.out e
     ·have := Hs4.out; omega
    obtain ⟨q0, q1, ql⟩ := cells2 hzV
    obtain ⟨HR6, HT6, HN2', HzV⟩ := hid4 hR6 hT6 hN2' hzV
    clear hR6 hT6 hN2' hzV
    go_wp2_with fail
    refine (q_gone HR6.out Hok.out.len s1 g1).mono ?_
    rintro e V6 ⟨rfl, hP⟩
    have hT7 := (HT.out.below Hb4.out).trans HT6.out
    have hfin : OwnPost (RepQ q (killsZ (sl, L, B) (hs.take (k + 1))).1 (killsZ (sl, L, B) (hs.take (k + 1))).2.1 (killsZ (sl, L, B) (hs.take (k + 1))).2.2) F V V6 := by
     rw [Hst.out]
     obtain ⟨F3, h3, h4⟩ := hP
     exact ⟨F3, h3, hT7.trans h4⟩
    have Hfin := Lib.hid hfin
    clear hfin
    clear hP hT7 q0 q1 ql
    have hlt := Hlt.out
    go_wp2
    go_roundw
    case rel => exact ⟨k + 1, by omega, by go_num, Hfin.out⟩
    case measure => simp [Go.RowKit.intOf]; omega
   ·obtain rfl : k = hs.length := by omega
    rw [List.take_length, ← HMk.out] at hOP
    have hy := hOP.mod.keep HzV1.out HN1.out
    have heV := hOP.mod.keep HzV2.out HN2.out
    obtain ⟨y0, y1, yl⟩ := cells2 hy
    obtain ⟨e0, e1, el⟩ := cells2 heV
    have f0 := blk_free hy 0
    have f1 := blk_free hy 1
    have hle0 := Hs0.out; have hle1 := blk_lt HzV1.out
    have HFin := Lib.hid (fun V' (hm : Mod [w0.heap.size] wr V') => OwnPost.side (own_Q _ _ _ _) hOP (by omega) HN1.out HbV.out (by omega) hm)
    clear hOP hrow hlt hy heV hle0 hle1
    go_wp2
    refine bodyPost_ret (v := .tuple #[.agg #[.int .i64 0, .int .i64 0], .int .i64 0]) (by unfold results; try go_simp) rfl ?_
    refine ⟨rfl, HFin.out _ ?_⟩
    repeat (refine Mod.setCell ?_ (.inl (by simp)) _)
    exact Mod.refl _ _
end
end Go.Proofs.YtehjfmjibiafdaaGreat
namespace Go.Proofs.YtehjfmjibiafdaaGreat
open Go Go.RowKit
def GoneS (sl : Sl) (x : Hd) : Prop := ∃ k : Nat, x.1 = (k : Int) ∧ ∃ y, sl[k]? = some y ∧ x.2 < y.1
def Told (sl : Sl) (x : Hd) : Prop := x ∈ allS sl ∨ GoneS sl x
structure DoPl (sl : Sl) (d : Int) (sl' : Sl) (r0 r1 e : Int) : Prop where
 hr : HdR (r0, r1)
 told : ∀ x, Told sl x → Told sl' x
 gone : ∀ x, GoneS sl x → GoneS sl' x
 sub : ∀ x ∈ allS sl', x ∈ allS sl ∨ (d = 1 ∧ e = 0 ∧ x = (r0, r1))
 new : d = 1 → e = 0 → (r0, r1) ∈ allS sl' ∧ ¬ Told sl (r0, r1)
theorem inR_small {z : Int} (h : 0 ≤ z) (h2 : z ≤ 1000000) : InR z := by unfold InR; omega
theorem hdR_zero : HdR (0, 0) := ⟨inR_small (by omega) (by omega), inR_small (by omega) (by omega)⟩
theorem doPl_same {sl : Sl} {d e : Int} (h : d = 1 → e ≠ 0) : DoPl sl d sl 0 0 e := ⟨hdR_zero, fun _ h => h, fun _ h => h, fun _ h => .inl h, fun h1 h2 => absurd h2 (h h1)⟩
theorem gone_free {sl : Sl} {x : Hd} (h : GoneS sl x) (s g : Int) : GoneS (freeL sl s g) x := by
 obtain ⟨k, hk, y, hy, hlt⟩ := h
 have e : (freeL sl s g)[k]? = some (if (s = (k : Int) ∧ y.2 = true ∧ y.1 = g) then (g + 1, false) else y) := by rw [free_get, hy]; rfl
 refine ⟨k, hk, _, e, ?_⟩
 split
 ·next hc => simp only; omega
 ·exact hlt
theorem told_free {sl : Sl} {x : Hd} (h : Told sl x) (s g : Int) : Told (freeL sl s g) x := by
 rcases h with h | h
 ·by_cases he : x = (s, g)
  ·subst he
   right
   obtain ⟨j, h1, hj, h2, h3⟩ := (mem_allFrom sl 0 s g).1 h
   have e : (freeL sl s g)[j]? = some (g + 1, false) := by
    rw [free_get, List.getElem?_eq_getElem hj, Option.map_some, if_pos ⟨by omega, h2, h3⟩]
   exact ⟨j, by simp only; omega, _, e, by simp only; omega⟩
  ·exact .inl (mem_free.2 ⟨h, he⟩)
 ·exact .inr (gone_free h s g)
theorem doPl_kills : ∀ {sl : Sl} {L : List Rw} {B : List Bd} (l : List Hd) {d e : Int}, d ≠ 1 → DoPl sl d (killsZ (sl, L, B) l).1 0 0 e
 | _, _, _, [], _, _, h => doPl_same (fun h1 => absurd h1 h)
 | sl, L, B, x :: l, d, e, h => by
  have ih : DoPl (freeL sl x.1 x.2) d (killsZ (freeL sl x.1 x.2, killL L x, goneB B x) l).1 0 0 e := doPl_kills l h
  exact ⟨hdR_zero, fun y hy => ih.told y (told_free hy _ _), fun y hy => ih.gone y (gone_free hy _ _), fun y hy => (ih.sub y hy).imp (fun h => (mem_free.1 h).1) id, fun h1 => absurd h1 h⟩
theorem mem_insH {l : List Hd} {x y : Hd} : y ∈ insH l x ↔ y ∈ l ∨ y = x := by
 have h0 := List.takeWhile_append_dropWhile (p := fun y : Hd => decide (y.1 < x.1)) (l := l)
 unfold insH
 rw [List.mem_append, List.mem_cons]
 conv => rhs; rw [← h0, List.mem_append]
 constructor
 ·rintro (h | h | h)
  ·exact .inl (.inl h)
  ·exact .inr h
  ·exact .inl (.inr h)
 ·rintro ((h | h) | h)
  ·exact .inl h
  ·exact .inr (.inr h)
  ·exact .inr (.inl h)
theorem take_get {sl : Sl} {k : Nat} {y : Int × Bool} (h : sl[k]? = some y) : ∃ b, (takeL sl)[k]? = some (y.1, b) := by
 unfold takeL
 cases hf : sl.findIdx? freeB with
 | some j =>
  simp only
  rw [List.getElem?_set]
  split
  ·next e =>
   subst e
   rw [List.getD_eq_getElem?_getD, h]
   obtain ⟨hl, -⟩ := List.getElem?_eq_some_iff.1 h
   rw [if_pos hl]
   exact ⟨true, rfl⟩
  ·exact ⟨y.2, h⟩
 | none =>
  simp only
  split
  ·exact ⟨y.2, h⟩
  ·obtain ⟨hl, -⟩ := List.getElem?_eq_some_iff.1 h
   rw [List.getElem?_append_left hl]
   exact ⟨y.2, h⟩
theorem gone_take {sl : Sl} {x : Hd} (h : GoneS sl x) : GoneS (takeL sl) x := by
 obtain ⟨k, hk, y, hy, hlt⟩ := h
 obtain ⟨b, hb⟩ := take_get hy
 exact ⟨k, hk, _, hb, hlt⟩
theorem take_not_gone {sl : Sl} (he : takeE sl = 0) : ¬ GoneS sl (takeK sl, takeG sl) := by
 rintro ⟨k, hk, y, hy, hlt⟩
 simp only at hk hlt
 unfold takeE at he
 unfold takeK at hk
 unfold takeG at hlt
 cases hf : sl.findIdx? freeB with
 | some j =>
  rw [hf] at hk hlt
  simp only at hk hlt
  have : j = k := by omega
  subst this
  rw [List.getD_eq_getElem?_getD, hy] at hlt
  simp at hlt
 | none =>
  rw [hf] at hk hlt he
  simp only at hk hlt he
  by_cases h60 : sl.length = 60
  ·rw [if_pos h60] at he; omega
  ·rw [if_neg h60] at hk
   obtain ⟨hl, -⟩ := List.getElem?_eq_some_iff.1 hy
   omega
theorem take_sat {sl : Sl} (he : takeE sl ≠ 0) : takeL sl = sl ∧ takeK sl = 0 ∧ takeG sl = 0 := by
 unfold takeE at he
 unfold takeL takeK takeG
 cases hf : sl.findIdx? freeB with
 | some k => rw [hf] at he; exact absurd rfl he
 | none =>
  rw [hf] at he
  simp only at he ⊢
  by_cases h60 : sl.length = 60
  ·simp [h60]
  ·rw [if_neg h60] at he; exact absurd rfl he
theorem doPl_spawn {sl : Sl} (hok : SlOk sl) (b : Bt) : DoPl sl 1 (spawnS sl b) (spawnH sl b).1 (spawnH sl b).2 (spawnE sl b) := by
 unfold spawnS spawnH spawnE
 by_cases hb : beastZ b ≠ 0
 ·rw [if_pos hb, if_pos hb, if_pos hb]
  exact doPl_same (fun _ => hb)
 ·rw [if_neg hb, if_neg hb, if_neg hb]
  by_cases he : takeE sl = 0
  ·obtain ⟨k, hk, hK, hne, ha⟩ := take_spec hok he
   have hmem : (takeK sl, takeG sl) ∈ allS (takeL sl) := by rw [ha, hK]; exact mem_insH.2 (.inr rfl)
   have hg : 0 ≤ takeG sl ∧ takeG sl ≤ 1000000 := by
    unfold takeG
    cases hf : sl.findIdx? freeB with
    | some j =>
     obtain ⟨hj, -⟩ := fi_lt hf
     simp only
     rw [List.getD_eq_getElem?_getD, List.getElem?_eq_getElem hj]
     have := hok.at_ hj
     exact ⟨this.1, this.2.1⟩
    | none => simp
   refine ⟨⟨inR_small (by simp only; omega) (by simp only; omega), inR_small hg.1 hg.2⟩, fun x hx => ?_, fun x hx => gone_take hx, fun x hx => ?_, fun _ _ => ⟨hmem, fun h => ?_⟩⟩
   ·rcases hx with hx | hx
    ·exact .inl (by rw [ha]; exact mem_insH.2 (.inl hx))
    ·exact .inr (gone_take hx)
   ·rw [ha] at hx
    rcases mem_insH.1 hx with h | h
    ·exact .inl h
    ·exact .inr ⟨rfl, he, by rw [h, hK]⟩
   ·rcases h with h | h
    ·exact hne _ h (by simp only; omega)
    ·exact take_not_gone he h
  ·have e2 := take_sat he
   rw [e2.1, e2.2.1, e2.2.2]
   exact doPl_same (fun _ => he)
section
variable {sl : Sl} {L : List Rw} {B : List Bd}
theorem not_putBad {k n : Int} (h : ¬ putBad k n) : (0 ≤ k ∧ k ≤ 7) ∧ ¬ (n < -1000000000 ∨ 1000000000 < n) := by
 unfold putBad at h
 exact ⟨by omega, fun h2 => h (.inr h2)⟩
theorem WOk.putA (h : WOk sl L) (x : Hd) (k n : Int) : WOk sl (putW L x k n) := by
 unfold putW
 cases hi : idxL L x with
 | none => exact h
 | some i =>
  simp only
  by_cases hb : putBad k n
  ·rw [if_pos hb]; exact h
  ·rw [if_neg hb]
   obtain ⟨hl, -⟩ := idx_some hi
   obtain ⟨h1, h2⟩ := not_putBad hb
   rw [modify_set hl]
   exact h.set hl rfl (putR_ok (h.be _ (List.getElem_mem hl)) (by omega) h2)
theorem WOk.dropA (h : WOk sl L) (x : Hd) (k : Int) : WOk sl (dropL L x k) := by
 unfold dropL
 cases hi : idxL L x with
 | none => exact h
 | some i =>
  simp only
  by_cases hb : dropE L x k = 0
  ·rw [if_pos hb]
   obtain ⟨hl, -⟩ := idx_some hi
   unfold dropE at hb
   rw [hi] at hb
   simp only at hb
   by_cases hk : k < 0 ∨ 7 < k
   ·rw [if_pos hk] at hb; cases hb
   ·rw [if_neg hk] at hb
    by_cases hh : hasK (L.getD i zeroR).2.1 k.toNat = true
    ·rw [modify_set hl]
     rw [List.getD_eq_getElem?_getD, List.getElem?_eq_getElem hl] at hh
     exact h.set hl rfl (dropR_ok (h.be _ (List.getElem_mem hl)) (by omega) hh)
    ·rw [if_neg hh] at hb; cases hb
  ·rw [if_neg hb]; exact h
theorem WOk.spawnA (h : WOk sl L) (b : Bt) : WOk (spawnS sl b) (spawnL sl L b) := by
 unfold spawnS spawnL spawnE
 by_cases hb : beastZ b ≠ 0
 ·rw [if_pos hb, if_pos hb, if_neg hb]; exact h
 ·rw [if_neg hb, if_neg hb]
  by_cases he : takeE sl = 0
  ·rw [if_pos he]; exact h.spawn he (Classical.not_not.1 hb)
  ·rw [if_neg he, (take_sat he).1]; exact h
end
end Go.Proofs.YtehjfmjibiafdaaGreat
namespace Go.Proofs.YtehjfmjibiafdaaGreat
open Go.RowKit
def badN (x : Int) : Bool := decide (x < 0) || decide (1000000 < x)
def badK (n : Nat) (x : Int) : Bool := decide (x < 0) || decide ((n : Int) ≤ x)
def anyP (p : Int → Bool) (l : List Int) : Bool := (l.findIdx? p).isSome
theorem badN_lo {x : Int} (h : x < 0) : badN x = true := by simp [badN, h]
theorem badN_hi {x : Int} (h : 1000000 < x) : badN x = true := by simp [badN, h]
theorem badN_in {x : Int} (h : 0 ≤ x) (h' : x ≤ 1000000) : badN x = false := by simp [badN]; omega
theorem badK_lo {n : Nat} {x : Int} (h : x < 0) : badK n x = true := by simp [badK, h]
theorem badK_hi {n : Nat} {x : Int} (h : (n : Int) ≤ x) : badK n x = true := by simp [badK, h]
theorem badK_in {n : Nat} {x : Int} (h : 0 ≤ x) (h' : x < n) : badK n x = false := by simp [badK]; omega
theorem load1_any (x : Int) (w : World) : Calls Tryz.prog 127 #[.int .i64 x] w fun e w' => e = .returned (.bool (badN x)) ∧ w = w' := by
 by_cases h0 : x < 0
 ·have H := Lib.hid (badN_lo h0)
  go_enter Tryz.func127, Tryz.ntmps127
  go_wp2
  go_ret
  exact ⟨by rw [H.out]; rfl, rfl⟩
 ·by_cases h1 : 1000000 < x
  ·have H := Lib.hid (badN_hi h1)
   go_enter Tryz.func127, Tryz.ntmps127
   go_wp2
   go_ret
   exact ⟨by rw [H.out]; rfl, rfl⟩
  ·have H := Lib.hid (badN_in (x := x) (by omega) (by omega))
   go_enter Tryz.func127, Tryz.ntmps127
   go_wp2
   go_ret
   exact ⟨by rw [H.out]; rfl, rfl⟩
theorem load2_any (x : Int) (b : Nat) (A : Option Addr) (n c : Nat) (w : World) (hb : w.cell? ⟨b, 0, none⟩ = some (.slice A n c)) (hn : n ≤ 9223372036854775807) :
  Calls Tryz.prog 128 #[.int .i64 x, .pointer (some ⟨b, 0, none⟩)] w fun e w' => e = .returned (.bool (badK n x)) ∧ w = w' := by
 by_cases h0 : x < 0
 ·have H := Lib.hid (badK_lo (n := n) h0)
  go_enter Tryz.func128, Tryz.ntmps128
  go_wp2
  go_ret
  exact ⟨by rw [H.out]; rfl, rfl⟩
 ·by_cases h1 : (n : Int) ≤ x
  ·have H := Lib.hid (badK_hi h1)
   go_enter Tryz.func128, Tryz.ntmps128
   go_wp2
   go_ret
   exact ⟨by rw [H.out]; rfl, rfl⟩
  ·have H := Lib.hid (badK_in (n := n) (x := x) (by omega) (by omega))
   go_enter Tryz.func128, Tryz.ntmps128
   go_wp2
   go_ret
   exact ⟨by rw [H.out]; rfl, rfl⟩
theorem anyP_cases (p : Int → Bool) (l : List Int) : (anyP p l = true ∧ ∃ k : Nat, firstI p l = k) ∨ (anyP p l = false ∧ firstI p l = -1) := by
 unfold anyP firstI
 cases h : l.findIdx? p with
 | some k => exact .inl ⟨rfl, k, rfl⟩
 | none => exact .inr ⟨rfl, rfl⟩
theorem anyP_false {p : Int → Bool} {l : List Int} (h : anyP p l = false) {k : Nat} (hk : k < l.length) : p l[k] = false := by
 unfold anyP at h
 rw [Option.isSome_eq_false_iff, Option.isNone_iff_eq_none, List.findIdx?_eq_none_iff] at h
 exact h _ (List.getElem_mem hk)
theorem anyP_none {p : Int → Bool} {l : List Int} (h : ∀ k (hk : k < l.length), p l[k] = false) : anyP p l = false := by
 unfold anyP
 rw [fi_none h]; rfl
set_option maxHeartbeats 1000000 in
theorem indexN_any (A : Option Addr) (c : Nat) (l : List Int) (B : Nat) (w : World) (hl : l.length ≤ 9223372036854775807) (hA : Lies w B A (ints l)) :
  Calls Tryz.prog 158 #[.slice A l.length c, .func (.func 127) #[] #[]] w fun e w' => e = .returned (.int .i64 (firstI badN l)) ∧ w = w' := by
 go_enter Tryz.func158, Tryz.ntmps158
 go_wp2
 go_loop [8] (fun i => ∃ k : Nat, k ≤ l.length ∧ i = .int .i64 k ∧ (∀ j (h : j < k) (h' : j < l.length), badN l[j] = false)) (fun i => l.length - (Go.RowKit.intOf i).toNat)
 case atStart => exact ⟨0, by omega, rfl, fun j h => by omega⟩
 case round =>
  obtain ⟨k, hk, rfl, hno⟩ := hrel
  by_cases hlt : k < l.length
  ·obtain ⟨a, rfl, hb, hc⟩ := hA.int hlt
   have hyes : badN l[k] = true → firstI badN l = k := fun h => firstI_some (fi_some hlt h fun j hj => hno j hj (by omega))
   have hno2 : badN l[k] = false → ∀ j (h : j < k + 1) (h' : j < l.length), badN l[j] = false := by
    intro hf j h h'
    by_cases e : j = k
    ·subst e; exact hf
    ·exact hno j (by omega) h'
   have ht := load1_any l[k] w
   generalize hf : badN l[k] = r at *
   generalize l[k] = x at *
   obtain ⟨Hno2, Hyes, Ht⟩ := hid3 hno2 hyes ht
   clear hno hno2 hyes ht hf hA
   cases r with
   | true =>
    have H := Lib.hid (Hyes.out rfl)
    go_wp2_with (go_at_call 127; refine (Ht.out).mono ?_; rintro e w1 ⟨rfl, rfl⟩)
    go_ret
    exact ⟨by rw [H.out]; rfl, rfl⟩
   | false =>
    go_wp2_with (go_at_call 127; refine (Ht.out).mono ?_; rintro e w1 ⟨rfl, rfl⟩)
    go_round
    case rel => exact ⟨k + 1, by omega, by go_num, Hno2.out trivial⟩
    case measure => simp [Go.RowKit.intOf]; omega
  ·have hf : firstI badN l = -1 := firstI_none (fi_none fun j hj => hno j (by omega) hj)
   have H := Lib.hid hf
   clear hf hno
   go_wp2
   go_ret
   exact ⟨by rw [H.out]; rfl, rfl⟩
theorem containsN_any (A : Option Addr) (c : Nat) (l : List Int) (B : Nat) (w : World) (hl : l.length ≤ 9223372036854775807) (hA : Lies w B A (ints l)) :
  Calls Tryz.prog 126 #[.slice A l.length c, .func (.func 127) #[] #[]] w fun e w' => e = .returned (.bool (anyP badN l)) ∧ w = w' := by
 have hi := indexN_any A c l B w hl hA
 rcases anyP_cases badN l with ⟨h1, k, h2⟩ | ⟨h1, h2⟩
 ·rw [h2] at hi
  obtain ⟨Hi, H⟩ := hid2 hi h1
  have hp : decide ((0 : Int) ≤ (k : Int)) = true := by simp
  clear hi hA h1 h2
  go_enter Tryz.func126, Tryz.ntmps126
  go_wp2_with fail
  refine (Hi.out).mono ?_
  rintro e w1 ⟨rfl, rfl⟩
  go_wp2
  go_ret
  exact ⟨by rw [H.out]; rfl, rfl⟩
 ·rw [h2] at hi
  obtain ⟨Hi, H⟩ := hid2 hi h1
  clear hi hA h1 h2
  go_enter Tryz.func126, Tryz.ntmps126
  go_wp2_with fail
  refine (Hi.out).mono ?_
  rintro e w1 ⟨rfl, rfl⟩
  go_wp2
  go_ret
  exact ⟨by rw [H.out]; rfl, rfl⟩
set_option maxHeartbeats 1000000 in
theorem indexK_any (b : Nat) (A1 : Option Addr) (n c1 : Nat) (A : Option Addr) (c : Nat) (l : List Int) (B : Nat) (w : World) (hl : l.length ≤ 9223372036854775807) (hA : Lies w B A (ints l)) (hbx : w.cell? ⟨b, 0, none⟩ = some (.slice A1 n c1)) (hn : n ≤ 9223372036854775807) :
  Calls Tryz.prog 158 #[.slice A l.length c, .func (.func 128) #[] #[.pointer (some ⟨b, 0, none⟩)]] w fun e w' => e = .returned (.int .i64 (firstI (badK n) l)) ∧ w = w' := by
 go_enter Tryz.func158, Tryz.ntmps158
 go_wp2
 go_loop [8] (fun i => ∃ k : Nat, k ≤ l.length ∧ i = .int .i64 k ∧ (∀ j (h : j < k) (h' : j < l.length), (badK n) l[j] = false)) (fun i => l.length - (Go.RowKit.intOf i).toNat)
 case atStart => exact ⟨0, by omega, rfl, fun j h => by omega⟩
 case round =>
  obtain ⟨k, hk, rfl, hno⟩ := hrel
  by_cases hlt : k < l.length
  ·obtain ⟨a, rfl, hb, hc⟩ := hA.int hlt
   have hyes : (badK n) l[k] = true → firstI (badK n) l = k := fun h => firstI_some (fi_some hlt h fun j hj => hno j hj (by omega))
   have hno2 : (badK n) l[k] = false → ∀ j (h : j < k + 1) (h' : j < l.length), (badK n) l[j] = false := by
    intro hf j h h'
    by_cases e : j = k
    ·subst e; exact hf
    ·exact hno j (by omega) h'
   have ht := load2_any l[k] b A1 n c1 w hbx hn
   generalize hf : (badK n) l[k] = r at *
   generalize l[k] = x at *
   obtain ⟨Hno2, Hyes, Ht⟩ := hid3 hno2 hyes ht
   clear hno hno2 hyes ht hf hA
   cases r with
   | true =>
    have H := Lib.hid (Hyes.out rfl)
    go_wp2_with (go_at_call 128; refine (Ht.out).mono ?_; rintro e w1 ⟨rfl, rfl⟩)
    go_ret
    exact ⟨by rw [H.out]; rfl, rfl⟩
   | false =>
    go_wp2_with (go_at_call 128; refine (Ht.out).mono ?_; rintro e w1 ⟨rfl, rfl⟩)
    go_round
    case rel => exact ⟨k + 1, by omega, by go_num, Hno2.out trivial⟩
    case measure => simp [Go.RowKit.intOf]; omega
  ·have hf : firstI (badK n) l = -1 := firstI_none (fi_none fun j hj => hno j (by omega) hj)
   have H := Lib.hid hf
   clear hf hno
   go_wp2
   go_ret
   exact ⟨by rw [H.out]; rfl, rfl⟩
theorem containsK_any (b : Nat) (A1 : Option Addr) (n c1 : Nat) (A : Option Addr) (c : Nat) (l : List Int) (B : Nat) (w : World) (hl : l.length ≤ 9223372036854775807) (hA : Lies w B A (ints l)) (hbx : w.cell? ⟨b, 0, none⟩ = some (.slice A1 n c1)) (hn : n ≤ 9223372036854775807) :
  Calls Tryz.prog 126 #[.slice A l.length c, .func (.func 128) #[] #[.pointer (some ⟨b, 0, none⟩)]] w fun e w' => e = .returned (.bool (anyP (badK n) l)) ∧ w = w' := by
 have hi := indexK_any b A1 n c1 A c l B w hl hA hbx hn
 rcases anyP_cases (badK n) l with ⟨h1, k, h2⟩ | ⟨h1, h2⟩
 ·rw [h2] at hi
  obtain ⟨Hi, H⟩ := hid2 hi h1
  have hp : decide ((0 : Int) ≤ (k : Int)) = true := by simp
  clear hi hA h1 h2
  go_enter Tryz.func126, Tryz.ntmps126
  go_wp2_with fail
  refine (Hi.out).mono ?_
  rintro e w1 ⟨rfl, rfl⟩
  go_wp2
  go_ret
  exact ⟨by rw [H.out]; rfl, rfl⟩
 ·rw [h2] at hi
  obtain ⟨Hi, H⟩ := hid2 hi h1
  clear hi hA h1 h2
  go_enter Tryz.func126, Tryz.ntmps126
  go_wp2_with fail
  refine (Hi.out).mono ?_
  rintro e w1 ⟨rfl, rfl⟩
  go_wp2
  go_ret
  exact ⟨by rw [H.out]; rfl, rfl⟩
end Go.Proofs.YtehjfmjibiafdaaGreat
