import Derived.Test.YtehjfmjibiafdaaGreatZooTellsJ37
/- Families: Adopt. (printed by mk_fam5.py) -/
namespace Go.Proofs.YtehjfmjibiafdaaGreat
open Go Go.RowKit Go.Maps Go.Shelf
attribute [local go_sem] AllFrom.cons_eq AllFrom.nil_eq putF_nil putF_cons wantedL_none wantedL_some OpGoalT OpGoalV OpGoalQ OpGoalA OpGoalK YieldsR preF_nil preF_cons
attribute [local go_sem] Oper.semAt_some

theorem Mod.thenBelow {F : List Nat} {a b c : World} (h : Mod F a b) (k : Below a.heap.size b c) : Mod F a c :=
  ⟨k.os.trans h.os, k.tape.trans h.tape, k.output.trans h.output, Nat.le_trans h.size k.size, fun i hi hF => (k.block i hi).trans (h.block i hi hF)⟩
open Classical in
noncomputable def adoE (B : List Bd) (c p : Hd) : Int := if Up B p c then 8 else 0
open Classical in
noncomputable def adoB (B : List Bd) (c p : Hd) : List Bd := if Up B p c then B else insB B (c, p)
section
variable {w : World} {f : Nat} {B : List Bd} {F : List Nat}
set_option maxRecDepth 20000 in
set_option maxHeartbeats 4000000 in
theorem adopt_same (h : RepF w f B F) (s g : Int) : Calls Tryz.prog 31 #[.pointer (some ⟨f, 0, none⟩), .agg #[.int .i64 s, .int .i64 g], .agg #[.int .i64 s, .int .i64 g]] w (FRet B (.int .i64 8) f F w) := by
  have hcmp : ∀ w, (binOp .eql 41 (.agg #[.int .i64 s, .int .i64 g]) (.agg #[.int .i64 s, .int .i64 g])).run Tryz.prog w = .ok (.bool true) w := fun w => by rw [eqlHandle, eqB_self]
  have HF := Lib.hid h
  go_enter Tryz.func31, Tryz.ntmps31
  go_wp2
  refine bodyPost_ret (v := .int .i64 8) (by unfold results; try go_simp) rfl ?_
  have hb : Below w.heap.size w (((w.alloc (.cells #[.int .i64 s, .int .i64 g] 41)).alloc (.cells #[.int .i64 s, .int .i64 g] 41)).alloc (.cells #[.int .i64 8] 28)) := (((Below.refl _ _).alloc (Nat.le_refl _) _).alloc (by simp) _).alloc (by simp; omega) _
  exact ⟨rfl, h.below hb, (Mod.ofBelow hb).mono (by simp)⟩

set_option maxRecDepth 20000 in
set_option maxHeartbeats 8000000 in
theorem adopt_diff (h : RepF w f B F) (s g t u : Int) (hne : (s, g) ≠ (t, u)) (hc : HdR (s, g)) (hp : HdR (t, u)) : Calls Tryz.prog 31 #[.pointer (some ⟨f, 0, none⟩), .agg #[.int .i64 s, .int .i64 g], .agg #[.int .i64 t, .int .i64 u]] w (FRet (adoB B (s, g) (t, u)) (.int .i64 (adoE B (s, g) (t, u))) f F w) := by
  obtain ⟨ch, hch⟩ := h.ok.ac.chain (t, u)
  obtain ⟨w0, hw0, hb0, hz0, hs0⟩ := box1 w (.cells #[.int .i64 s, .int .i64 g] 41)
  obtain ⟨w1, hw1, hb1, hz1, hs1⟩ := box1 w0 (.cells #[.int .i64 t, .int .i64 u] 41)
  obtain ⟨w2, hw2, hb2, hz2, hs2⟩ := box1 w1 (.cells #[.int .i64 0] 28)
  obtain ⟨w3, hw3, hb3, hz3, hs3⟩ := box1 w2 (.cells #[.pointer (some ⟨f, 0, none⟩)] 60)
  obtain ⟨w4, hw4, hb4, hz4, hs4⟩ := box1 w3 (.cells #[.int .i64 t, .int .i64 u] 41)
  have hB12 : Below w0.heap.size w0 w2 := hb1.trans (hb2.mono hb1.size)
  have hB02 : Below w.heap.size w w2 := hb0.trans (hB12.mono hb0.size)
  have hB24 : Below w2.heap.size w2 w4 := hb3.trans (hb4.mono hb3.size)
  have hB04 : Below w.heap.size w w4 := hB02.trans (hB24.mono hB02.size)
  have hz02 := (Mod.ofBelow hB12).keep hz0 (by simp)
  have hz12 := (Mod.ofBelow hb2).keep hz1 (by simp)
  have hz04 := (Mod.ofBelow hB24).keep hz02 (by simp)
  have hz14 := (Mod.ofBelow hB24).keep hz12 (by simp)
  have hz24 := (Mod.ofBelow hB24).keep hz2 (by simp)
  have hz34 := (Mod.ofBelow hb4).keep hz3 (by simp)
  have hcmp : ∀ w, (binOp .eql 41 (.agg #[.int .i64 s, .int .i64 g]) (.agg #[.int .i64 t, .int .i64 u])).run Tryz.prog w = .ok (.bool false) w := fun w => by rw [eqlHandle, eqB_ne hne]
  have h4 := h.below hB04
  have h1 := above_any f t u w2
  rw [hw3, hw4] at h1
  have hseq := fun n => above_seq n h4 t u hp hch w2.heap.size (w2.heap.size + 1) hz34 (by rw [← hs3]; exact hz4)
  have q0 := blk_cell hz02 0
  have q1 := blk_cell hz02 1
  simp only [List.getElem?_toArray, List.getElem?_cons_zero, List.getElem?_cons_succ] at q0 q1
  have ql := blk_lt hz02
  have v0 := blk_cell hz12 0
  have v1 := blk_cell hz12 1
  simp only [List.getElem?_toArray, List.getElem?_cons_zero, List.getElem?_cons_succ] at v0 v1
  have vl := blk_lt hz12
  have hlt4 : w2.heap.size < w4.heap.size := blk_lt hz34
  have H := Lib.hid h; have H1 := Lib.hid h1; have Hseq := Lib.hid hseq; have Hz04 := Lib.hid hz04; have Hz14 := Lib.hid hz14; have Hz24 := Lib.hid hz24; have H4 := Lib.hid h4; have HB04 := Lib.hid hB04; have Hs0 := Lib.hid hs0; have Hs1 := Lib.hid hs1; have Hs2 := Lib.hid hs2; have Hs3 := Lib.hid hs3; have Hs4 := Lib.hid hs4; have Hch := Lib.hid hch; have Hlt4 := Lib.hid hlt4
  clear h h1 hseq hz04 hz14 hz24 h4 hB04 hs0 hs1 hs2 hs3 hs4 hch hlt4
  clear hb0 hz0 hb1 hz1 hb2 hz2 hb3 hz3 hb4 hz4 hB12 hB02 hB24 hz02 hz12 hz34 hw3 hw4
  refine callsIn_wide.1 (callsIn_of_wp_marks (n := 5) Tryz.func31 rfl trivial (wpIn_wide.2 ?_) rfl)
  simp only [Tryz.ntmps31, List.size_toArray, List.length_cons, List.length_nil, Nat.reduceAdd, Nat.reduceSub, Array.replicate_succ, Array.replicate_zero, List.push_toArray, List.append_toArray, List.nil_append, List.cons_append]
  go_wp2_with fail
  clear hw0 hw1 hw2
  refine H1.out.mono ?_
  rintro e w' ⟨rfl, rfl⟩
  go_wp2_with fail
  have hnu : (t, u) ≠ (s, g) := Ne.symm hne
  refine wp_rangeW 5 (by omega) (gf := 132) (lb := #[.pointer (some ⟨w2.heap.size, 0, none⟩), .pointer (some ⟨w2.heap.size + 1, 0, none⟩)]) rfl (enters_of Tryz.func132 (by kernel_rfl) rfl) (Hseq.out 4) (Below.refl _ _) (fun _ => rfl)
    (fun pre W => Below w'.heap.size w' W ∧ (s, g) ∉ pre)
    (fun cd pre W => cd = .ret ∧ (s, g) ∈ pre ∧ Mod [w1.heap.size] w' W ∧ W.heap[w1.heap.size]? = some (.cells #[.int .i64 8] 28 (0, 0)))
    (fun _ _ _ h k => ⟨h.1.trans k, h.2⟩) (fun _ _ _ _ h k => ⟨h.1, h.2.1, ?_, ?_⟩) ⟨Below.refl _ _, by simp⟩
    (fun (x : Hd) a' W => ∃ Bx, W.heap[Bx]? = some (.cells (handleC x).toArray 41 (0, 0)) ∧ a' = { tmps := #[.pointer (some ⟨f, 0, none⟩), .agg #[.int .i64 s, .int .i64 g], .agg #[.int .i64 t, .int .i64 u], undef, .pointer (some ⟨w.heap.size, 0, none⟩), .pointer (some ⟨w0.heap.size, 0, none⟩), .pointer (some ⟨w1.heap.size, 0, none⟩), .pointer (some ⟨Bx, 0, none⟩), .agg #[.int .i64 s, .int .i64 g], .agg #[.int .i64 t, .int .i64 u], .bool false, .pointer (some ⟨f, 0, none⟩), .agg #[.int .i64 t, .int .i64 u], .func (.func 132) #[] #[.pointer (some ⟨w2.heap.size, 0, none⟩), .pointer (some ⟨w2.heap.size + 1, 0, none⟩)], hdV x, undef, undef, undef, undef, undef, undef, undef, undef, undef], defers := [] })
    (fun x a' X Y h _ k => ?_) ?assign ?body ?done ?stop
  case assign =>
    rintro l pre ⟨x0, x1⟩ W K hl hI hK
    simp only [hdV, handleC]
    gi_wp2
    exact hK _ _ ((Mod.refl _ _).alloc _) ⟨W.heap.size, heap_alloc_new W _, rfl⟩
  case body =>
    rintro l pre ⟨x0, x1⟩ a' W hl ⟨hB, hn⟩ ⟨Bx, hx, rfl⟩ hlen
    simp only [hdV, handleC] at hx ⊢
    have hzW := (Mod.ofBelow hB).keep Hz04.out (by simp)
    have hyW := (Mod.ofBelow hB).keep Hz24.out (by simp)
    have heq := fun w => eqlHandle w x0 x1 s g
    have hb6 : w1.heap.size < w'.heap.size := blk_lt Hz24.out
    clear q0 q1 ql v0 v1 vl hcmp
    have q0 := blk_cell hx 0
    have q1 := blk_cell hx 1
    simp only [List.getElem?_toArray, List.getElem?_cons_zero, List.getElem?_cons_succ] at q0 q1
    have ql := blk_lt hx
    have v0 := blk_cell hzW 0
    have v1 := blk_cell hzW 1
    simp only [List.getElem?_toArray, List.getElem?_cons_zero, List.getElem?_cons_succ] at v0 v1
    have vl := blk_lt hzW
    have y0 := blk_cell hyW 0
    simp only [List.getElem?_toArray, List.getElem?_cons_zero, List.getElem?_cons_succ] at y0
    have yl := blk_lt hyW
    have f0 := blk_free hyW 0
    cases hr : eqB (x0, x1) (s, g) with
    | true =>
      have hxs : (x0, x1) = (s, g) := by simpa [eqB] using hr
      rw [hr] at heq
      have HB := Lib.hid hB; have HyW := Lib.hid hyW; have Hb6 := Lib.hid hb6; have Hl := Lib.hid hl
      clear hB hyW hb6 hl
      clear hx hzW hn hr hlen
      gi_wp2
      refine ⟨?_, rfl, ?_, (Mod.ofBelow HB.out).mono (by simp) |>.setCell (by simp) _, blk_set HyW.out 0 _⟩
      · intro k o hk ho
        rw [blk_set_ne (by have := Hb6.out; simp; omega)]; exact ho
      · rw [hxs]; simp
    | false =>
      have hxs : (s, g) ≠ (x0, x1) := fun e => by rw [e, eqB_self] at hr; cases hr
      rw [hr] at heq
      have HB := Lib.hid hB
      clear hB
      clear hx hzW hr hlen hyW
      gi_wp2
      exact ⟨Mod.refl _ _, HB.out, by simp [hn, hxs]⟩
  case done =>
    rintro D xs W hD rfl ⟨hB, hn⟩ hK
    have hnup : ¬ Up B (t, u) (s, g) := fun hu => by
      rcases (Hch.out.mem H.out.ok.so _).2 hu with e | e
      · exact hnu e
      · exact hn e
    have hzs := (Mod.ofBelow hB).keep Hz04.out (by simp)
    have hzt := (Mod.ofBelow hB).keep Hz14.out (by simp)
    have hy := (Mod.ofBelow hB).keep Hz24.out (by simp)
    have h5 := H4.out.below hB
    obtain ⟨m, w5, hF, hcm, hfl, hrun, h6, hm6⟩ := (h5.below below_drew).upd hc hp (insB_ok H.out.ok hnup)
    simp only [hdV, handleC] at hrun
    have hcm' : W.cell? ⟨f, 0, none⟩ = some (.map (some m)) := hcm
    have hfl' : f < W.heap.size := hfl
    have hmF : m ∈ F := by rw [hF]; simp
    have hml := H.out.lt m hmF
    have hy5 := hm6.keep (blk_drew hy) (by have := Hs0.out; have := Hs1.out; simp; omega)
    have hK5 := hm6.keep (blk_drew hK) (by have := HB04.out.size; simp; omega)
    have hM5 : Mod F w w5 := (((Mod.ofBelow (HB04.out.trans (hB.mono HB04.out.size))).mono (by simp) : Mod F w W).andBelow below_drew).step (hm6.mono (by simp [hmF]))
    have hDb : D ≠ w1.heap.size := by have := blk_lt Hz24.out; omega
    have hw1F : ∀ y ∈ F, y ≠ w1.heap.size ∧ y ≠ D := fun y hy => by
      have := H.out.lt y hy; have := Hs0.out; have := Hs1.out; have := HB04.out.size
      exact ⟨by omega, by omega⟩
    have hfin : FRet (adoB B (s, g) (t, u)) (.int .i64 (adoE B (s, g) (t, u))) f F w (.returned (.int .i64 0)) ((w5.setCell ⟨w1.heap.size, 0, none⟩ (.int .i64 0)).putObj D (.deferred none)) := by
      have e1 : adoB B (s, g) (t, u) = insB B ((s, g), (t, u)) := by unfold adoB; rw [if_neg hnup]
      have e2 : adoE B (s, g) (t, u) = 0 := by unfold adoE; rw [if_neg hnup]
      rw [e1, e2]
      refine ⟨rfl, h6.mod (G := [w1.heap.size, D]) (((Mod.refl _ _).setCell (by simp) _).putObj (by simp) _) (fun y hy => by simpa using hw1F y hy), ?_⟩
      exact (hM5.setCell (.inr (by have := Hs0.out; have := Hs1.out; simp; omega)) _).putObj (.inr (by have := HB04.out.size; omega)) _
    have y0 := blk_cell hy5 0
    simp only [List.getElem?_toArray, List.getElem?_cons_zero, List.getElem?_cons_succ] at y0
    have yl := blk_lt hy5
    have f0 := blk_free hy5 0
    have hyf : ((w5.setCell ⟨w1.heap.size, 0, none⟩ (.int .i64 0)).putObj D (.deferred none)).heap[w1.heap.size]? = some (.cells #[.int .i64 0] 28 (0, 0)) := (World.putObj_heap_other (by omega)).trans (blk_set hy5 0 _)
    have hKf : (w5.setCell ⟨w1.heap.size, 0, none⟩ (.int .i64 0)).heap[D]? = some (.deferred (some [])) := (blk_set_ne (by simpa using hDb) _).trans hK5
    clear q0 q1 ql v0 v1 vl hcmp
    have q0 := blk_cell hzs 0
    have q1 := blk_cell hzs 1
    simp only [List.getElem?_toArray, List.getElem?_cons_zero, List.getElem?_cons_succ] at q0 q1
    have ql := blk_lt hzs
    have v0 := blk_cell hzt 0
    have v1 := blk_cell hzt 1
    simp only [List.getElem?_toArray, List.getElem?_cons_zero, List.getElem?_cons_succ] at v0 v1
    have vl := blk_lt hzt
    have Hfin := Lib.hid hfin; have Hyf := Lib.hid hyf; have HKf := Lib.hid hKf
    clear hfin hyf hKf
    clear hzs hzt hy h5 hcm hfl h6 hm6 hml hy5 hK5 hM5 hDb hw1F hB hn hK hF hmF
    go_wp2_with fail
    refine wp_planR 6 [0] [some 18, some 19, some 20, some 21, some 22, some 23, none] [[], [0], [0, 1], [0, 1, 2], [], [], [0, 1, 2, 3, 4, 5]] [0, 1, 2, 3, 4, 5] mixed rfl (by kernel_rfl) (by decide) (by decide) rfl ?_
    iterate 6 apply Exists.intro
    refine ⟨rfl, ?_, ?_⟩
    · simp only [List.take_succ_cons, List.take_zero, AllFrom.cons_eq, AllFrom.nil_eq, OpGoalQ]
      refine ⟨?_, ?_, ?_, ?_, ?_, ?_, trivial⟩
      all_goals (intro σ hp; (try simp only [List.getD_cons_zero, List.getD_cons_succ, List.map_cons, List.map_nil, preF_cons, preF_nil, isV, and_true] at hp); (first | (have hq : True := hp; clear hq hp) | skip))
      all_goals (go_simp; exact ⟨rfl, rfl⟩)
    intro σ hp
    simp only [List.getD_cons_zero, List.getD_cons_succ, List.map_cons, List.map_nil, preF_cons, preF_nil, isV, and_true] at hp
    simp only [List.drop_succ_cons, List.drop_zero]
    go_simp
    clear hp
    go_wp2
    refine ⟨rfl, ?_⟩
    go_wp2
    refine ⟨by simp, .inl ⟨_, _, rfl, run_takeDeferred HKf.out, ?_⟩⟩
    have e0 := blk_cell Hyf.out 0
    simp only [List.getElem?_toArray, List.getElem?_cons_zero] at e0
    have el := blk_lt Hyf.out
    refine ⟨.int .i64 0, ?_, Hfin.out⟩
    unfold results; go_simp
  case stop =>
    rintro D cd pre W hD hpre ⟨rfl, hmem, hmod, hb8⟩ hK
    have hup : Up B (t, u) (s, g) := (Hch.out.mem H.out.ok.so _).1 (.inr (hpre.subset hmem))
    have hD' : D ≠ w1.heap.size := by have := blk_lt Hz24.out; omega
    have hb9 : (W.putObj D (.deferred none)).heap[w1.heap.size]? = some (.cells #[.int .i64 8] 28 (0, 0)) := (World.putObj_heap_other (by omega)).trans hb8
    have hfin : FRet (adoB B (s, g) (t, u)) (.int .i64 (adoE B (s, g) (t, u))) f F w (.returned (.int .i64 8)) (W.putObj D (.deferred none)) := by
      have e1 : adoB B (s, g) (t, u) = B := by unfold adoB; rw [if_pos hup]
      have e2 : adoE B (s, g) (t, u) = 8 := by unfold adoE; rw [if_pos hup]
      rw [e1, e2]
      have hM0 : Mod [] w (W.putObj D (.deferred none)) := (((Mod.ofBelow HB04.out).trans hmod (fun x hx => by
        simp only [List.mem_cons, List.not_mem_nil, or_false] at hx
        have := Hs0.out; have := Hs1.out
        exact .inr (by omega))).putObj (.inr (by have := HB04.out.size; omega)) _)
      exact ⟨rfl, H.out.mod hM0 (by simp), hM0.mono (by simp)⟩
    have Hfin := Lib.hid hfin; have HK := Lib.hid hK; have Hb9 := Lib.hid hb9
    clear hfin hK hb9
    clear hmod hb8 hmem hpre hup q0 q1 ql v0 v1 vl hcmp
    go_wp2
    refine ⟨by simp, .inl ⟨_, _, rfl, run_takeDeferred HK.out, ?_⟩⟩
    have e0 := blk_cell Hb9.out 0
    simp only [List.getElem?_toArray, List.getElem?_cons_zero] at e0
    have el := blk_lt Hb9.out
    refine ⟨.int .i64 8, ?_, Hfin.out⟩
    unfold results; go_simp
  · exact h.2.2.1.thenBelow k
  · exact (k.block _ (blk_lt Hz24.out)).trans h.2.2.2
  · obtain ⟨Bx, h1, h2⟩ := h
    exact ⟨Bx, k _ _ h1 rfl, h2⟩
theorem adopt_any (h : RepF w f B F) (s g t u : Int) (hc : HdR (s, g)) (hp : HdR (t, u)) : Calls Tryz.prog 31 #[.pointer (some ⟨f, 0, none⟩), .agg #[.int .i64 s, .int .i64 g], .agg #[.int .i64 t, .int .i64 u]] w (FRet (adoB B (s, g) (t, u)) (.int .i64 (adoE B (s, g) (t, u))) f F w) := by
  by_cases e : (s, g) = (t, u)
  · obtain ⟨rfl, rfl⟩ := Prod.mk.inj e
    rw [show adoB B (s, g) (s, g) = B by unfold adoB; rw [if_pos (Up.refl _)], show adoE B (s, g) (s, g) = 8 by unfold adoE; rw [if_pos (Up.refl _)]]
    exact adopt_same h s g
  · exact adopt_diff h s g t u e hc hp
end
end Go.Proofs.YtehjfmjibiafdaaGreat
