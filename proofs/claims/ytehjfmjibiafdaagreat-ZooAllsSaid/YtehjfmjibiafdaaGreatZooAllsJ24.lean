import Derived.Test.YtehjfmjibiafdaaGreatZooAllsJ0
import Derived.Test.YtehjfmjibiafdaaGreatZooAllsJ23
/- A part of the proof that the law ZooAlls returns true for every input. -/
namespace Go.Proofs.YtehjfmjibiafdaaGreat
open Go Go.RowKit Go.Maps Go.Shelf
attribute [local go_sem] AllFrom.cons_eq AllFrom.nil_eq putF_nil putF_cons wantedL_none wantedL_some OpGoalT OpGoalV OpGoalQ OpGoalA OpGoalK YieldsR preF_nil preF_cons
attribute [local go_sem] Oper.semAt_some
theorem Mod.thenBelow {F : List Nat} {a b c : World} (h : Mod F a b) (k : Below a.heap.size b c) : Mod F a c :=
 ⟨k.os.trans h.os, k.tape.trans h.tape, k.output.trans h.output, Nat.le_trans h.size k.size, fun i hi hF => (k.block i hi).trans (h.block i hi hF)⟩
open Classical in
noncomputable def adoE (B : List Bd) (c p : Hd) : Int := if Up B p c then 8 else 0
open Classical in
noncomputable def adoB (B : List Bd) (c p : Hd) : List Bd := if Up B p c then B else insB B (c, p)
section
variable {w : World} {f : Nat} {B : List Bd} {F : List Nat}
set_option maxRecDepth 20000 in
set_option maxHeartbeats 4000000 in
theorem adopt_same (h : RepF w f B F) (s g : Int) : Calls Tryz.prog 31 #[.pointer (some ⟨f, 0, none⟩), .agg #[.int .i64 s, .int .i64 g], .agg #[.int .i64 s, .int .i64 g]] w (FRet B (.int .i64 8) f F w) := by
 have hcmp : ∀ w, (binOp .eql 41 (.agg #[.int .i64 s, .int .i64 g]) (.agg #[.int .i64 s, .int .i64 g])).run Tryz.prog w = .ok (.bool true) w := fun w => by rw [eqlHandle, eqB_self]
 have HF := Lib.hid h
 go_enter Tryz.func31, Tryz.ntmps31
 go_wp2
 refine bodyPost_ret (v := .int .i64 8) (by unfold results; try go_simp) rfl ?_
 have hb : Below w.heap.size w (((w.alloc (.cells #[.int .i64 s, .int .i64 g] 41)).alloc (.cells #[.int .i64 s, .int .i64 g] 41)).alloc (.cells #[.int .i64 8] 28)) := (((Below.refl _ _).alloc (Nat.le_refl _) _).alloc (by simp) _).alloc (by simp; omega) _
 exact ⟨rfl, h.below hb, (Mod.ofBelow hb).mono (by simp)⟩
set_option maxRecDepth 20000 in
set_option maxHeartbeats 8000000 in
theorem adopt_diff (h : RepF w f B F) (s g t u : Int) (hne : (s, g) ≠ (t, u)) (hc : HdR (s, g)) (hp : HdR (t, u)) : Calls Tryz.prog 31 #[.pointer (some ⟨f, 0, none⟩), .agg #[.int .i64 s, .int .i64 g], .agg #[.int .i64 t, .int .i64 u]] w (FRet (adoB B (s, g) (t, u)) (.int .i64 (adoE B (s, g) (t, u))) f F w) := by
 obtain ⟨ch, hch⟩ := h.ok.ac.chain (t, u)
 obtain ⟨w0, hw0, hb0, hz0, hs0⟩ := box1 w (.cells #[.int .i64 s, .int .i64 g] 41)
 obtain ⟨w1, hw1, hb1, hz1, hs1⟩ := box1 w0 (.cells #[.int .i64 t, .int .i64 u] 41)
 obtain ⟨w2, hw2, hb2, hz2, hs2⟩ := box1 w1 (.cells #[.int .i64 0] 28)
 obtain ⟨w3, hw3, hb3, hz3, hs3⟩ := box1 w2 (.cells #[.pointer (some ⟨f, 0, none⟩)] 60)
 obtain ⟨w4, hw4, hb4, hz4, hs4⟩ := box1 w3 (.cells #[.int .i64 t, .int .i64 u] 41)
 have hB12 : Below w0.heap.size w0 w2 := hb1.trans (hb2.mono hb1.size)
 have hB02 : Below w.heap.size w w2 := hb0.trans (hB12.mono hb0.size)
 have hB24 : Below w2.heap.size w2 w4 := hb3.trans (hb4.mono hb3.size)
 have hB04 : Below w.heap.size w w4 := hB02.trans (hB24.mono hB02.size)
 have hz02 := (Mod.ofBelow hB12).keep hz0 (by simp)
 have hz12 := (Mod.ofBelow hb2).keep hz1 (by simp)
 have hz04 := (Mod.ofBelow hB24).keep hz02 (by simp)
 have hz14 := (Mod.ofBelow hB24).keep hz12 (by simp)
 have hz24 := (Mod.ofBelow hB24).keep hz2 (by simp)
 have hz34 := (Mod.ofBelow hb4).keep hz3 (by simp)
 have hcmp : ∀ w, (binOp .eql 41 (.agg #[.int .i64 s, .int .i64 g]) (.agg #[.int .i64 t, .int .i64 u])).run Tryz.prog w = .ok (.bool false) w := fun w => by rw [eqlHandle, eqB_ne hne]
 have h4 := h.below hB04
 have h1 := above_any f t u w2
 rw [hw3, hw4] at h1
 have hseq := fun n => above_seq n h4 t u hp hch w2.heap.size (w2.heap.size + 1) hz34 (by rw [← hs3]; exact hz4)
 obtain ⟨q0, q1, ql⟩ := cells2 hz02
 obtain ⟨v0, v1, vl⟩ := cells2 hz12
 have hlt4 : w2.heap.size < w4.heap.size := blk_lt hz34
 obtain ⟨H, H1, Hseq, Hz04, Hz14, Hz24, H4, HB04, Hs0, Hs1, Hs2, Hs3, Hs4, Hch, Hlt4⟩ := hid15 h h1 hseq hz04 hz14 hz24 h4 hB04 hs0 hs1 hs2 hs3 hs4 hch hlt4
 clear h h1 hseq hz04 hz14 hz24 h4 hB04 hs0 hs1 hs2 hs3 hs4 hch hlt4
 clear hb0 hz0 hb1 hz1 hb2 hz2 hb3 hz3 hb4 hz4 hB12 hB02 hB24 hz02 hz12 hz34 hw3 hw4
 refine callsIn_wide.1 (callsIn_of_wp_marks (n := 5) Tryz.func31 rfl trivial (wpIn_wide.2 ?_) rfl)
 simp only [Tryz.ntmps31, List.size_toArray, List.length_cons, List.length_nil, Nat.reduceAdd, Nat.reduceSub, Array.replicate_succ, Array.replicate_zero, List.push_toArray, List.append_toArray, List.nil_append, List.cons_append]
 go_wp2_with fail
 clear hw0 hw1 hw2
 refine H1.out.mono ?_
 rintro e w' ⟨rfl, rfl⟩
 go_wp2_with fail
 have hnu : (t, u) ≠ (s, g) := Ne.symm hne
 refine wp_rangeW 5 (by omega) (gf := 132) (lb := #[.pointer (some ⟨w2.heap.size, 0, none⟩), .pointer (some ⟨w2.heap.size + 1, 0, none⟩)]) rfl (enters_of Tryz.func132 (by kernel_rfl) rfl) (Hseq.out 4) (Below.refl _ _) (fun _ => rfl)
  (fun pre W => Below w'.heap.size w' W ∧ (s, g) ∉ pre)
  (fun cd pre W => cd = .ret ∧ (s, g) ∈ pre ∧ Mod [w1.heap.size] w' W ∧ W.heap[w1.heap.size]? = some (.cells #[.int .i64 8] 28 (0, 0)))
  (fun _ _ _ h k => ⟨h.1.trans k, h.2⟩) (fun _ _ _ _ h k => ⟨h.1, h.2.1, ?_, ?_⟩) ⟨Below.refl _ _, by simp⟩
  (fun (x : Hd) a' W => ∃ Bx, W.heap[Bx]? = some (.cells (handleC x).toArray 41 (0, 0)) ∧ a' = { tmps := #[.pointer (some ⟨f, 0, none⟩), .agg #[.int .i64 s, .int .i64 g], .agg #[.int .i64 t, .int .i64 u], undef, .pointer (some ⟨w.heap.size, 0, none⟩), .pointer (some ⟨w0.heap.size, 0, none⟩), .pointer (some ⟨w1.heap.size, 0, none⟩), .pointer (some ⟨Bx, 0, none⟩), .agg #[.int .i64 s, .int .i64 g], .agg #[.int .i64 t, .int .i64 u], .bool false, .pointer (some ⟨f, 0, none⟩), .agg #[.int .i64 t, .int .i64 u], .func (.func 132) #[] #[.pointer (some ⟨w2.heap.size, 0, none⟩), .pointer (some ⟨w2.heap.size + 1, 0, none⟩)], hdV x, undef, undef, undef, undef, undef, undef, undef, undef, undef], defers := [] })
  (fun x a' X Y h _ k => ?_) ?assign ?body ?done ?stop
 case assign =>
  rintro l pre ⟨x0, x1⟩ W K hl hI hK
  simp only [hdV, handleC]
  gi_wp2
  exact hK _ _ ((Mod.refl _ _).alloc _) ⟨W.heap.size, heap_alloc_new W _, rfl⟩
 case body =>
  rintro l pre ⟨x0, x1⟩ a' W hl ⟨hB, hn⟩ ⟨Bx, hx, rfl⟩ hlen
  simp only [hdV, handleC] at hx ⊢
  have hzW := (Mod.ofBelow hB).keep Hz04.out (by simp)
  have hyW := (Mod.ofBelow hB).keep Hz24.out (by simp)
  have heq := fun w => eqlHandle w x0 x1 s g
  have hb6 : w1.heap.size < w'.heap.size := blk_lt Hz24.out
  clear q0 q1 ql v0 v1 vl hcmp
  obtain ⟨q0, q1, ql⟩ := cells2 hx
  obtain ⟨v0, v1, vl⟩ := cells2 hzW
  obtain ⟨y0, yl⟩ := cells1 hyW
  have f0 := blk_free hyW 0
  cases hr : eqB (x0, x1) (s, g) with
  | true =>
   have hxs : (x0, x1) = (s, g) := by simpa [eqB] using hr
   rw [hr] at heq
   obtain ⟨HB, HyW, Hb6, Hl⟩ := hid4 hB hyW hb6 hl
   clear hB hyW hb6 hl
   clear hx hzW hn hr hlen
   gi_wp2
   refine ⟨?_, rfl, ?_, (Mod.ofBelow HB.out).mono (by simp) |>.setCell (by simp) _, blk_set HyW.out 0 _⟩
   ·intro k o hk ho
    rw [blk_set_ne (by have := Hb6.out; simp; omega)]; exact ho
   ·rw [hxs]; simp
  | false =>
   have hxs : (s, g) ≠ (x0, x1) := fun e => by rw [e, eqB_self] at hr; cases hr
   rw [hr] at heq
   have HB := Lib.hid hB
   clear hB
   clear hx hzW hr hlen hyW
   gi_wp2
   exact ⟨Mod.refl _ _, HB.out, by simp [hn, hxs]⟩
 case done =>
  rintro D xs W hD rfl ⟨hB, hn⟩ hK
  have hnup : ¬ Up B (t, u) (s, g) := fun hu => by
   rcases (Hch.out.mem H.out.ok.so _).2 hu with e | e
   ·exact hnu e
   ·exact hn e
  have hzs := (Mod.ofBelow hB).keep Hz04.out (by simp)
  have hzt := (Mod.ofBelow hB).keep Hz14.out (by simp)
  have hy := (Mod.ofBelow hB).keep Hz24.out (by simp)
  have h5 := H4.out.below hB
  obtain ⟨m, w5, hF, hcm, hfl, hrun, h6, hm6⟩ := (h5.below below_drew).upd hc hp (insB_ok H.out.ok hnup)
  simp only [hdV, handleC] at hrun
  have hcm' : W.cell? ⟨f, 0, none⟩ = some (.map (some m)) := hcm
  have hfl' : f < W.heap.size := hfl
  have hmF : m ∈ F := by rw [hF]; simp
  have hml := H.out.lt m hmF
  have hy5 := hm6.keep (blk_drew hy) (by have := Hs0.out; have := Hs1.out; simp; omega)
  have hK5 := hm6.keep (blk_drew hK) (by have := HB04.out.size; simp; omega)
  have hM5 : Mod F w w5 := (((Mod.ofBelow (HB04.out.trans (hB.mono HB04.out.size))).mono (by simp) : Mod F w W).andBelow below_drew).step (hm6.mono (by simp [hmF]))
  have hDb : D ≠ w1.heap.size := by have := blk_lt Hz24.out; omega
  have hw1F : ∀ y ∈ F, y ≠ w1.heap.size ∧ y ≠ D := fun y hy => by
   have := H.out.lt y hy; have := Hs0.out; have := Hs1.out; have := HB04.out.size
   exact ⟨by omega, by omega⟩
  have hfin : FRet (adoB B (s, g) (t, u)) (.int .i64 (adoE B (s, g) (t, u))) f F w (.returned (.int .i64 0)) ((w5.setCell ⟨w1.heap.size, 0, none⟩ (.int .i64 0)).putObj D (.deferred none)) := by
   have e1 : adoB B (s, g) (t, u) = insB B ((s, g), (t, u)) := by unfold adoB; rw [if_neg hnup]
   have e2 : adoE B (s, g) (t, u) = 0 := by unfold adoE; rw [if_neg hnup]
   rw [e1, e2]
   refine ⟨rfl, h6.mod (G := [w1.heap.size, D]) (((Mod.refl _ _).setCell (by simp) _).putObj (by simp) _) (fun y hy => by simpa using hw1F y hy), ?_⟩
   exact (hM5.setCell (.inr (by have := Hs0.out; have := Hs1.out; simp; omega)) _).putObj (.inr (by have := HB04.out.size; omega)) _
  obtain ⟨y0, yl⟩ := cells1 hy5
  have f0 := blk_free hy5 0
  have hyf : ((w5.setCell ⟨w1.heap.size, 0, none⟩ (.int .i64 0)).putObj D (.deferred none)).heap[w1.heap.size]? = some (.cells #[.int .i64 0] 28 (0, 0)) := (World.putObj_heap_other (by omega)).trans (blk_set hy5 0 _)
  have hKf : (w5.setCell ⟨w1.heap.size, 0, none⟩ (.int .i64 0)).heap[D]? = some (.deferred (some [])) := (blk_set_ne (by simpa using hDb) _).trans hK5
  clear q0 q1 ql v0 v1 vl hcmp
  obtain ⟨q0, q1, ql⟩ := cells2 hzs
  obtain ⟨v0, v1, vl⟩ := cells2 hzt
  obtain ⟨Hfin, Hyf, HKf⟩ := hid3 hfin hyf hKf
  clear hfin hyf hKf
  clear hzs hzt hy h5 hcm hfl h6 hm6 hml hy5 hK5 hM5 hDb hw1F hB hn hK hF hmF
  go_wp2_with fail
  refine wp_planR 6 [0] [some 18, some 19, some 20, some 21, some 22, some 23, none] [[], [0], [0, 1], [0, 1, 2], [], [], [0, 1, 2, 3, 4, 5]] [0, 1, 2, 3, 4, 5] mixed rfl (by kernel_rfl) (by decide) (by decide) rfl ?_
  iterate 6 apply Exists.intro
  refine ⟨rfl, ?_, ?_⟩
  ·simp only [List.take_succ_cons, List.take_zero, AllFrom.cons_eq, AllFrom.nil_eq, OpGoalQ]
   refine ⟨?_, ?_, ?_, ?_, ?_, ?_, trivial⟩
   all_goals (intro σ hp; (try simp only [List.getD_cons_zero, List.getD_cons_succ, List.map_cons, List.map_nil, preF_cons, preF_nil, isV, and_true] at hp); (first | (have hq : True := hp; clear hq hp) | skip))
   all_goals (go_simp; exact ⟨rfl, rfl⟩)
  intro σ hp
  simp only [List.getD_cons_zero, List.getD_cons_succ, List.map_cons, List.map_nil, preF_cons, preF_nil, isV, and_true] at hp
  simp only [List.drop_succ_cons, List.drop_zero]
  go_simp
  clear hp
  go_wp2
  refine ⟨rfl, ?_⟩
  go_wp2
  refine ⟨by simp, .inl ⟨_, _, rfl, run_takeDeferred HKf.out, ?_⟩⟩
  have e0 := blk_cell Hyf.out 0
  simp only [List.getElem?_toArray, List.getElem?_cons_zero] at e0
  have el := blk_lt Hyf.out
  refine ⟨.int .i64 0, ?_, Hfin.out⟩
  unfold results; go_simp
 case stop =>
  rintro D cd pre W hD hpre ⟨rfl, hmem, hmod, hb8⟩ hK
  have hup : Up B (t, u) (s, g) := (Hch.out.mem H.out.ok.so _).1 (.inr (hpre.subset hmem))
  have hD' : D ≠ w1.heap.size := by have := blk_lt Hz24.out; omega
  have hb9 : (W.putObj D (.deferred none)).heap[w1.heap.size]? = some (.cells #[.int .i64 8] 28 (0, 0)) := (World.putObj_heap_other (by omega)).trans hb8
  have hfin : FRet (adoB B (s, g) (t, u)) (.int .i64 (adoE B (s, g) (t, u))) f F w (.returned (.int .i64 8)) (W.putObj D (.deferred none)) := by
   have e1 : adoB B (s, g) (t, u) = B := by unfold adoB; rw [if_pos hup]
   have e2 : adoE B (s, g) (t, u) = 8 := by unfold adoE; rw [if_pos hup]
   rw [e1, e2]
   have hM0 : Mod [] w (W.putObj D (.deferred none)) := (((Mod.ofBelow HB04.out).trans hmod (fun x hx => by
    simp only [List.mem_cons, List.not_mem_nil, or_false] at hx
    have := Hs0.out; have := Hs1.out
    exact .inr (by omega))).putObj (.inr (by have := HB04.out.size; omega)) _)
   exact ⟨rfl, H.out.mod hM0 (by simp), hM0.mono (by simp)⟩
  obtain ⟨Hfin, HK, Hb9⟩ := hid3 hfin hK hb9
  clear hfin hK hb9
  clear hmod hb8 hmem hpre hup q0 q1 ql v0 v1 vl hcmp
  go_wp2
  refine ⟨by simp, .inl ⟨_, _, rfl, run_takeDeferred HK.out, ?_⟩⟩
  have e0 := blk_cell Hb9.out 0
  simp only [List.getElem?_toArray, List.getElem?_cons_zero] at e0
  have el := blk_lt Hb9.out
  refine ⟨.int .i64 8, ?_, Hfin.out⟩
  unfold results; go_simp
 ·exact h.2.2.1.thenBelow k
 ·exact (k.block _ (blk_lt Hz24.out)).trans h.2.2.2
 ·obtain ⟨Bx, h1, h2⟩ := h
  exact ⟨Bx, k _ _ h1 rfl, h2⟩
theorem adopt_any (h : RepF w f B F) (s g t u : Int) (hc : HdR (s, g)) (hp : HdR (t, u)) : Calls Tryz.prog 31 #[.pointer (some ⟨f, 0, none⟩), .agg #[.int .i64 s, .int .i64 g], .agg #[.int .i64 t, .int .i64 u]] w (FRet (adoB B (s, g) (t, u)) (.int .i64 (adoE B (s, g) (t, u))) f F w) := by
 by_cases e : (s, g) = (t, u)
 ·obtain ⟨rfl, rfl⟩ := Prod.mk.inj e
  rw [show adoB B (s, g) (s, g) = B by unfold adoB; rw [if_pos (Up.refl _)], show adoE B (s, g) (s, g) = 8 by unfold adoE; rw [if_pos (Up.refl _)]]
  exact adopt_same h s g
 ·exact adopt_diff h s g t u e hc hp
end
end Go.Proofs.YtehjfmjibiafdaaGreat
namespace Go.Proofs.YtehjfmjibiafdaaGreat
open Go Go.RowKit
attribute [local go_sem] AllFrom.cons_eq AllFrom.nil_eq putF_nil putF_cons wantedL_none wantedL_some OpGoalT OpGoalV OpGoalQ OpGoalA OpGoalK YieldsR preF_nil preF_cons
def RepB (vg vl vr : Value) (w : World) (q : Nat) (B : List Bd) (F : List Nat) : Prop :=
 ∃ vB, w.heap[q]? = some (.cells #[vg, vl, vr, vB] 47 (0, 0)) ∧ w.ownsRow 0 84 4 vB B.length (B.flatMap bdC) ∧ F = q :: vB.ownBlock.toList ∧ q ∉ vB.ownBlock.toList
section
variable {vg vl vr : Value}
theorem RepB.mod {w w' : World} {q : Nat} {B : List Bd} {F G : List Nat} (h : RepB vg vl vr w q B F) (hm : Mod G w w') (hd : ∀ y ∈ F, y ∉ G) : RepB vg vl vr w' q B F := by
 obtain ⟨vB, h1, h2, rfl, h4⟩ := h
 exact ⟨vB, hm.keep h1 (hd q (by simp)), row_mod h2 hm (fun k hk => hd k (by simp [hk])), rfl, h4⟩
theorem RepB.below {w w' : World} {q : Nat} {B : List Bd} {F : List Nat} (h : RepB vg vl vr w q B F) (hb : Below w.heap.size w w') : RepB vg vl vr w' q B F := h.mod (Mod.ofBelow hb) (by simp)
theorem RepB.lt {w : World} {q : Nat} {B : List Bd} {F : List Nat} (h : RepB vg vl vr w q B F) : ∀ y ∈ F, y < w.heap.size := by
 obtain ⟨vB, h1, h2, rfl, h4⟩ := h
 intro y hy
 rcases List.mem_cons.1 hy with rfl | hy
 ·exact blk_lt h1
 ·exact row_lt h2 y (by simpa using hy)
theorem RepB.open_ {w : World} {q : Nat} {B : List Bd} {F : List Nat} (h : RepB vg vl vr w q B F) : ∃ A cap, w.heap[q]? = some (.cells #[vg, vl, vr, .slice A B.length cap] 47 (0, 0)) ∧ w.ownsRow 0 84 4 (.slice A B.length cap) B.length (B.flatMap bdC) := by
 obtain ⟨vB, h1, h2, -, -⟩ := h
 obtain ⟨A, cap, rfl, -, -⟩ := row_slice h2
 exact ⟨A, cap, h1, h2⟩
theorem RepB.put {w w1 : World} {q : Nat} {B B' : List Bd} {F : List Nat} {v' : Value} (h : RepB vg vl vr w q B F) (hb : Below w.heap.size w w1) (hv : w1.ownsRow w.heap.size 84 4 v' B'.length (B'.flatMap bdC)) :
  ∃ F', RepB vg vl vr (w1.setCell ⟨q, 3, none⟩ v') q B' F' ∧ Turns w F F' (w1.setCell ⟨q, 3, none⟩ v') := by
 obtain ⟨vB, h1, h2, rfl, h4⟩ := h
 have hq := (Mod.ofBelow hb).keep h1 (by simp)
 have hql := blk_lt h1
 have hge := own_ge hv
 refine ⟨q :: v'.ownBlock.toList, ⟨v', blk_set hq 3 _, ?_, rfl, ?_⟩, ?_, ?_⟩
 ·refine row_base (row_mod hv ((Mod.refl [q] _).setCell (by simp) _) (fun k hk e => ?_)) (fun k _ => Nat.zero_le k)
  have := hge k hk
  simp at e; omega
 ·intro e
  have := hge q (by simpa using e)
  omega
 ·exact ((Mod.ofBelow hb).mono (by simp)).setCell (by simp) _
 ·intro k hk
  rcases List.mem_cons.1 hk with rfl | hk
  ·simp
  ·exact .inr (hge k (by simpa using hk))
theorem parB_succ {B : List Bd} {h : Hd} {n : Nat} (hn : n < B.length) (hno : parB (B.take n) h = none) : parB (B.take (n + 1)) h = if B[n].1 = h then some B[n].2 else none := by
 unfold parB at *
 rw [Option.map_eq_none_iff] at hno
 rw [take_succ_get B n hn, List.find?_append, hno]
 by_cases e : B[n].1 = h <;> simp [e]
theorem parB_take {B : List Bd} {h p : Hd} {n : Nat} (e : parB (B.take n) h = some p) : parB B h = some p := by
 unfold parB at *
 conv => lhs; rw [← List.take_append_drop n B]
 rw [List.find?_append]
 cases hf : (B.take n).find? (fun b => decide (b.1 = h)) with
 | none => rw [hf] at e; cases e
 | some b => rw [hf] at e; simpa using e
theorem kids_succ (B : List Bd) (h : Hd) (n : Nat) (hn : n < B.length) : kidsB (B.take (n + 1)) h = kidsB (B.take n) h ++ (if eqB B[n].2 h = true then [B[n].1] else []) := by
 unfold kidsB eqB
 rw [take_succ_get B n hn, List.filter_append, List.map_append, List.filter_cons]
 by_cases e : B[n].2 = h <;> simp [e]
theorem outB_succ (B : List Bd) (h : Hd) (n : Nat) (hn : n < B.length) : outB (B.take (n + 1)) h = outB (B.take n) h ++ (if eqB B[n].1 h = true then [] else [B[n]]) := by
 unfold outB eqB
 rw [take_succ_get B n hn, List.filter_append, List.filter_cons]
 by_cases e : B[n].1 = h <;> simp [e]
theorem goneB_succ (B : List Bd) (h : Hd) (n : Nat) (hn : n < B.length) : goneB (B.take (n + 1)) h = goneB (B.take n) h ++ (if ofH h B[n] = true then [] else [B[n]]) := by
 unfold goneB ofH eqB
 rw [take_succ_get B n hn, List.filter_append, List.filter_cons]
 by_cases e1 : B[n].1 = h <;> by_cases e2 : B[n].2 = h <;> simp [e1, e2]
theorem app_bond1 {w : World} {ops : Array Oper} {rest : List Oper} {o : Oper} {a : Act} {Q : Exit → Act → World → Prop} (hgd : o.guard = none) (s x : Operand)
  (ho : o.op = .call { callee := .builtin .append, args := #[s, x], argTypes := #[24, 24] }) (base : Nat) (v : Value) (l : List Bd) (y : Bd) (ad : Addr) (c : Nat)
  (hs : a.eval s = v) (hown : w.ownsRow base 84 4 v l.length (l.flatMap bdC)) (hx : a.eval x = .slice (some ad) 1 c) (hc : ∀ j u, (bdC y)[j]? = some u → w.cell? (ad.add j) = some u)
  (hlen : l.length < 4000000000000) (hbase : base ≤ w.heap.size)
  (h : ∀ v' w', w'.ownsRow base 84 4 v' (l ++ [y]).length ((l ++ [y]).flatMap bdC) → Below base w w' → wpList Tryz.prog ops Q rest (a.put o.dst v') w') : wpList Tryz.prog ops Q (o :: rest) a w :=
 app_bond hgd s x ho base v l y ad c hs hown hx hc hlen hbase (fun v' w' h1 h2 => h v' w' h1 ((Below.refl base w).grown h2 hbase (own_ge hown)))
set_option maxRecDepth 20000 in
set_option maxHeartbeats 2000000 in
theorem cloAdopt_any (b0 b1 b2 b3 s g : Int) (hb : Nat) (w : World) (hh : w.heap[hb]? = some (.cells #[.int .i64 s, .int .i64 g] 41 (0, 0))) :
  Calls Tryz.prog 86 #[.agg #[.int .i64 b0, .int .i64 b1, .int .i64 b2, .int .i64 b3], .pointer (some ⟨hb, 0, none⟩)] w (BoolPost (eqB (b0, b1) (s, g)) w) := by
 obtain ⟨v0, v1, vl⟩ := cells2 hh
 have hB : ∀ o, Below w.heap.size w (w.alloc o) := fun o => (Below.refl _ _).alloc (Nat.le_refl _) o
 have HB := Lib.hid hB
 clear hB
 clear hh
 have hq1 := fun w => eqlHandle w b0 b1 s g
 generalize eqB (b0, b1) (s, g) = r1 at *
 go_enter Tryz.func86, Tryz.ntmps86
 go_wp2
 go_ret
 exact ⟨rfl, HB.out _⟩
set_option maxRecDepth 20000 in
set_option maxHeartbeats 2000000 in
theorem cloLoosen_any (b0 b1 b2 b3 s g : Int) (hb : Nat) (w : World) (hh : w.heap[hb]? = some (.cells #[.int .i64 s, .int .i64 g] 41 (0, 0))) :
  Calls Tryz.prog 104 #[.agg #[.int .i64 b0, .int .i64 b1, .int .i64 b2, .int .i64 b3], .pointer (some ⟨hb, 0, none⟩)] w (BoolPost (eqB (b0, b1) (s, g)) w) := by
 obtain ⟨v0, v1, vl⟩ := cells2 hh
 have hB : ∀ o, Below w.heap.size w (w.alloc o) := fun o => (Below.refl _ _).alloc (Nat.le_refl _) o
 have HB := Lib.hid hB
 clear hB
 clear hh
 have hq1 := fun w => eqlHandle w b0 b1 s g
 generalize eqB (b0, b1) (s, g) = r1 at *
 go_enter Tryz.func104, Tryz.ntmps104
 go_wp2
 go_ret
 exact ⟨rfl, HB.out _⟩
set_option maxRecDepth 20000 in
set_option maxHeartbeats 2000000 in
theorem cloGone_any (b0 b1 b2 b3 s g : Int) (hb : Nat) (w : World) (hh : w.heap[hb]? = some (.cells #[.int .i64 s, .int .i64 g] 41 (0, 0))) :
  Calls Tryz.prog 108 #[.agg #[.int .i64 b0, .int .i64 b1, .int .i64 b2, .int .i64 b3], .pointer (some ⟨hb, 0, none⟩)] w (BoolPost (ofH (s, g) ((b0, b1), (b2, b3))) w) := by
 obtain ⟨v0, v1, vl⟩ := cells2 hh
 have hB : ∀ o, Below w.heap.size w (w.alloc o) := fun o => (Below.refl _ _).alloc (Nat.le_refl _) o
 have HB := Lib.hid hB
 clear hB
 clear hh
 unfold ofH
 have hq1 := fun w => eqlHandle w b0 b1 s g
 have hq2 := fun w => eqlHandle w b2 b3 s g
 generalize eqB (b0, b1) (s, g) = r1 at *
 generalize eqB (b2, b3) (s, g) = r2 at *
 cases r1 with
 | true =>
  go_enter Tryz.func108, Tryz.ntmps108
  go_wp2
  go_ret
  exact ⟨rfl, HB.out _⟩
 | false =>
  go_enter Tryz.func108, Tryz.ntmps108
  go_wp2
  go_ret
  exact ⟨rfl, HB.out _⟩
set_option maxRecDepth 20000 in
set_option maxHeartbeats 4000000 in
theorem withoutAdopt_any {w : World} {B : List Bd} {A : Option Addr} {cap : Nat} (hrow : w.ownsRow 0 84 4 (.slice A B.length cap) B.length (B.flatMap bdC)) (hl : B.length ≤ 1200000000000) (s g : Int) (b : Nat) (h0 : w.heap[b]? = some (.cells #[.int .i64 s, .int .i64 g] 41 (0, 0))) :
  Calls Tryz.prog 85 #[.slice A B.length cap, .func (.func 86) #[] #[.pointer (some ⟨b, 0, none⟩)]] w (MadeR 84 4 bdC (outB B (s, g)) w) := by
 have hle : B.length ≤ 9223372036854775807 := by omega
 have hbl := blk_lt h0
 have HLL := Lib.hid hl
 clear hl
 go_enter Tryz.func85, Tryz.ntmps85
 go_wp2
 go_loopw [5, 10] (fun v i wr => ∃ n : Nat, n ≤ B.length ∧ i = .int .i64 n ∧ wr.ownsRow w.heap.size 84 4 v (outB (B.take n) (s, g)).length ((outB (B.take n) (s, g)).flatMap bdC) ∧ Below w.heap.size w wr) (fun _ i _ => B.length - (Go.RowKit.intOf i).toNat)
 case atStart => exact ⟨0, by omega, rfl, ⟨rfl, .inl ⟨rfl, rfl⟩⟩, Below.refl _ _⟩
 case round =>
  obtain ⟨n, hn, rfl, hown, hbel⟩ := hrel
  have hsz := hbel.size
  by_cases hlt : n < B.length
  ·have hro : wr.ownsRow 0 84 4 (.slice A B.length cap) B.length (B.flatMap bdC) := row_mod hrow (Mod.ofBelow hbel) (by simp)
   obtain ⟨g0, cap0, cur0, hv, -, -, -⟩ := row_some hro (by omega)
   cases hv
   have hpc := row_piece bdC_len hro hlt 0 (bdC B[n]) (fun j u hu => by rw [Nat.zero_add]; exact hu)
   have hst := outB_succ B (s, g) n hlt
   have hlen : (outB (B.take n) (s, g)).length ≤ n := by
    have h1 : (outB (B.take n) (s, g)).length ≤ (B.take n).length := List.length_filter_le _ _
    rw [List.length_take] at h1; omega
   have hg0 := row_lt hro g0 rfl
   have hni : (n : Int) < (B.length : Int) := by omega
   generalize outB (B.take n) (s, g) = M at *
   obtain ⟨x, hx⟩ : ∃ x, B[n] = x := ⟨_, rfl⟩
   rw [hx] at hpc hst
   obtain ⟨⟨b0, b1⟩, b2, b3⟩ := x
   have hbz := (Mod.ofBelow hbel).keep h0 (by simp)
   obtain ⟨w3, hw3, hb3, hz3, hs3⟩ := box1 wr (.cells #[.int .i64 b0, .int .i64 b1, .int .i64 b2, .int .i64 b3] 84)
   have hO3 := hown.alloc (.cells #[.int .i64 b0, .int .i64 b1, .int .i64 b2, .int .i64 b3] 84)
   rw [hw3] at hO3
   have hb03 := hbel.trans (hb3.mono hsz)
   have hbz3 := (Mod.ofBelow hb3).keep hbz (by simp)
   have hk1 := cloAdopt_any b0 b1 b2 b3 s g b w3 hbz3
   have hl3 : wr.heap.size < w3.heap.size := by omega
   obtain ⟨r0, r1, r2, r3, rl⟩ := cells4 hz3
   obtain ⟨HP, Hst, Hlen, Hown, Hbel, HO3, Hb03, Hk, Hs3, Hz3, Hw3, H0, Hrow⟩ := hid13 hpc hst hlen hown hbel hO3 hb03 hk1 hs3 hz3 hw3 h0 hrow
   clear hpc hst hlen hown hbel hO3 hb03 hk1 hs3 hz3 hw3 h0 hrow
   clear hro hx hbz hbz3 hb3
   have HO := Lib.hid (bdC_one ((b0, b1), (b2, b3)))
   go_wp2_with (first | (refine wpList_load_flat rfl 84 (.tmp 12) rfl _ rfl [.int .i64 b0, .int .i64 b1, .int .i64 b2, .int .i64 b3] _ Tryz.underlying84 rfl (by kernel_rfl) HP.out ?_) | (refine wpList_store_new rfl 84 (.tmp 7) (.tmp 13) rfl wr (ints [0, 0, 0, 0]) [.int .i64 b0, .int .i64 b1, .int .i64 b2, .int .i64 b3] 84 rfl rfl rfl (by kernel_rfl) HO.out ?_; rw [show ([.int .i64 b0, .int .i64 b1, .int .i64 b2, .int .i64 b3] : List Value).toArray = #[.int .i64 b0, .int .i64 b1, .int .i64 b2, .int .i64 b3] from rfl, Hw3.out]; clear HO))
   refine Hk.out.mono ?_
   rintro e w4 ⟨rfl, hb4⟩
   have hz4 := (Mod.ofBelow hb4).keep Hz3.out (by simp)
   have hs4 := hb4.size
   have hs3 := Hs3.out
   have hO4 := row_mod HO3.out (Mod.ofBelow hb4) (by simp)
   have hb04 := Hb03.out.trans (hb4.mono Hb03.out.size)
   have hbs := Hb03.out.size
   cases hr : eqB (b0, b1) (s, g) with
   | true =>
    have hst := Hst.out
    rw [if_pos hr, List.append_nil] at hst
    obtain ⟨Hst2, HO4, Hbel4, Hz4, Hs4, Hbs, Hr⟩ := hid7 hst hO4 hb04 hz4 hs4 hbs hr
    clear hst hO4 hb04 hz4 hs4 hbs hr
    clear hs3 hb4 r0 r1 r2 r3 rl
    go_wp2
    go_roundw
    case rel => exact ⟨n + 1, by omega, by go_num, by rw [Hst2.out]; exact HO4.out, Hbel4.out⟩
    case measure => simp [Go.RowKit.intOf]; omega
   | false =>
    have hst := Hst.out
    rw [if_neg (by rw [hr]; simp)] at hst
    clear r0 r1 r2 r3 rl
    obtain ⟨r0, r1, r2, r3, rl⟩ := cells4 hz4
    obtain ⟨Hst2, Hown4, Hbel4, Hs4, Hbs, Hr⟩ := hid6 hst hO4 hb04 hs4 hbs hr
    clear hst hO4 hb04 hs4 hbs hr
    clear hb4 hz4 hs3
    go_wp2_with (at_builtin; (refine app_bond1 rfl _ _ rfl w.heap.size _ M ((b0, b1), (b2, b3)) ⟨w4.heap.size, 0, none⟩ 1 rfl (Hown4.out.alloc _) rfl (new_rec (by simp) rfl) (by have := HLL.out; have := Hlen.out; omega) (by have := Hbel4.out.size; simp; omega) ?_); intro v' w5 hown5 hb5)
    go_roundw
    case rel => exact ⟨n + 1, by omega, by go_num, by rw [Hst2.out]; exact hown5, (Hbel4.out.alloc Hbel4.out.size _).trans hb5⟩
    case measure => simp [Go.RowKit.intOf]; omega
  ·obtain rfl : n = B.length := by omega
   rw [List.take_length] at hown
   obtain ⟨Hown, Hbel⟩ := hid2 hown hbel
   clear hown hbel
   clear hrow h0
   go_wp2
   go_ret
   exact ⟨_, rfl, Hown.out, Hbel.out⟩
set_option maxRecDepth 20000 in
set_option maxHeartbeats 4000000 in
theorem withoutLoosen_any {w : World} {B : List Bd} {A : Option Addr} {cap : Nat} (hrow : w.ownsRow 0 84 4 (.slice A B.length cap) B.length (B.flatMap bdC)) (hl : B.length ≤ 1200000000000) (s g : Int) (b : Nat) (h0 : w.heap[b]? = some (.cells #[.int .i64 s, .int .i64 g] 41 (0, 0))) :
  Calls Tryz.prog 85 #[.slice A B.length cap, .func (.func 104) #[] #[.pointer (some ⟨b, 0, none⟩)]] w (MadeR 84 4 bdC (outB B (s, g)) w) := by
 have hle : B.length ≤ 9223372036854775807 := by omega
 have hbl := blk_lt h0
 have HLL := Lib.hid hl
 clear hl
 go_enter Tryz.func85, Tryz.ntmps85
 go_wp2
 go_loopw [5, 10] (fun v i wr => ∃ n : Nat, n ≤ B.length ∧ i = .int .i64 n ∧ wr.ownsRow w.heap.size 84 4 v (outB (B.take n) (s, g)).length ((outB (B.take n) (s, g)).flatMap bdC) ∧ Below w.heap.size w wr) (fun _ i _ => B.length - (Go.RowKit.intOf i).toNat)
 case atStart => exact ⟨0, by omega, rfl, ⟨rfl, .inl ⟨rfl, rfl⟩⟩, Below.refl _ _⟩
 case round =>
  obtain ⟨n, hn, rfl, hown, hbel⟩ := hrel
  have hsz := hbel.size
  by_cases hlt : n < B.length
  ·have hro : wr.ownsRow 0 84 4 (.slice A B.length cap) B.length (B.flatMap bdC) := row_mod hrow (Mod.ofBelow hbel) (by simp)
   obtain ⟨g0, cap0, cur0, hv, -, -, -⟩ := row_some hro (by omega)
   cases hv
   have hpc := row_piece bdC_len hro hlt 0 (bdC B[n]) (fun j u hu => by rw [Nat.zero_add]; exact hu)
   have hst := outB_succ B (s, g) n hlt
   have hlen : (outB (B.take n) (s, g)).length ≤ n := by
    have h1 : (outB (B.take n) (s, g)).length ≤ (B.take n).length := List.length_filter_le _ _
    rw [List.length_take] at h1; omega
   have hg0 := row_lt hro g0 rfl
   have hni : (n : Int) < (B.length : Int) := by omega
   generalize outB (B.take n) (s, g) = M at *
   obtain ⟨x, hx⟩ : ∃ x, B[n] = x := ⟨_, rfl⟩
   rw [hx] at hpc hst
   obtain ⟨⟨b0, b1⟩, b2, b3⟩ := x
   have hbz := (Mod.ofBelow hbel).keep h0 (by simp)
   obtain ⟨w3, hw3, hb3, hz3, hs3⟩ := box1 wr (.cells #[.int .i64 b0, .int .i64 b1, .int .i64 b2, .int .i64 b3] 84)
   have hO3 := hown.alloc (.cells #[.int .i64 b0, .int .i64 b1, .int .i64 b2, .int .i64 b3] 84)
   rw [hw3] at hO3
   have hb03 := hbel.trans (hb3.mono hsz)
   have hbz3 := (Mod.ofBelow hb3).keep hbz (by simp)
   have hk1 := cloLoosen_any b0 b1 b2 b3 s g b w3 hbz3
   have hl3 : wr.heap.size < w3.heap.size := by omega
   obtain ⟨r0, r1, r2, r3, rl⟩ := cells4 hz3
   obtain ⟨HP, Hst, Hlen, Hown, Hbel, HO3, Hb03, Hk, Hs3, Hz3, Hw3, H0, Hrow⟩ := hid13 hpc hst hlen hown hbel hO3 hb03 hk1 hs3 hz3 hw3 h0 hrow
   clear hpc hst hlen hown hbel hO3 hb03 hk1 hs3 hz3 hw3 h0 hrow
   clear hro hx hbz hbz3 hb3
   have HO := Lib.hid (bdC_one ((b0, b1), (b2, b3)))
   go_wp2_with (first | (refine wpList_load_flat rfl 84 (.tmp 12) rfl _ rfl [.int .i64 b0, .int .i64 b1, .int .i64 b2, .int .i64 b3] _ Tryz.underlying84 rfl (by kernel_rfl) HP.out ?_) | (refine wpList_store_new rfl 84 (.tmp 7) (.tmp 13) rfl wr (ints [0, 0, 0, 0]) [.int .i64 b0, .int .i64 b1, .int .i64 b2, .int .i64 b3] 84 rfl rfl rfl (by kernel_rfl) HO.out ?_; rw [show ([.int .i64 b0, .int .i64 b1, .int .i64 b2, .int .i64 b3] : List Value).toArray = #[.int .i64 b0, .int .i64 b1, .int .i64 b2, .int .i64 b3] from rfl, Hw3.out]; clear HO))
   refine Hk.out.mono ?_
   rintro e w4 ⟨rfl, hb4⟩
   have hz4 := (Mod.ofBelow hb4).keep Hz3.out (by simp)
   have hs4 := hb4.size
   have hs3 := Hs3.out
   have hO4 := row_mod HO3.out (Mod.ofBelow hb4) (by simp)
   have hb04 := Hb03.out.trans (hb4.mono Hb03.out.size)
   have hbs := Hb03.out.size
   cases hr : eqB (b0, b1) (s, g) with
   | true =>
    have hst := Hst.out
    rw [if_pos hr, List.append_nil] at hst
    obtain ⟨Hst2, HO4, Hbel4, Hz4, Hs4, Hbs, Hr⟩ := hid7 hst hO4 hb04 hz4 hs4 hbs hr
    clear hst hO4 hb04 hz4 hs4 hbs hr
    clear hs3 hb4 r0 r1 r2 r3 rl
    go_wp2
    go_roundw
    case rel => exact ⟨n + 1, by omega, by go_num, by rw [Hst2.out]; exact HO4.out, Hbel4.out⟩
    case measure => simp [Go.RowKit.intOf]; omega
   | false =>
    have hst := Hst.out
    rw [if_neg (by rw [hr]; simp)] at hst
    clear r0 r1 r2 r3 rl
    obtain ⟨r0, r1, r2, r3, rl⟩ := cells4 hz4
    obtain ⟨Hst2, Hown4, Hbel4, Hs4, Hbs, Hr⟩ := hid6 hst hO4 hb04 hs4 hbs hr
    clear hst hO4 hb04 hs4 hbs hr
    clear hb4 hz4 hs3
    go_wp2_with (at_builtin; (refine app_bond1 rfl _ _ rfl w.heap.size _ M ((b0, b1), (b2, b3)) ⟨w4.heap.size, 0, none⟩ 1 rfl (Hown4.out.alloc _) rfl (new_rec (by simp) rfl) (by have := HLL.out; have := Hlen.out; omega) (by have := Hbel4.out.size; simp; omega) ?_); intro v' w5 hown5 hb5)
    go_roundw
    case rel => exact ⟨n + 1, by omega, by go_num, by rw [Hst2.out]; exact hown5, (Hbel4.out.alloc Hbel4.out.size _).trans hb5⟩
    case measure => simp [Go.RowKit.intOf]; omega
  ·obtain rfl : n = B.length := by omega
   rw [List.take_length] at hown
   obtain ⟨Hown, Hbel⟩ := hid2 hown hbel
   clear hown hbel
   clear hrow h0
   go_wp2
   go_ret
   exact ⟨_, rfl, Hown.out, Hbel.out⟩
set_option maxRecDepth 20000 in
set_option maxHeartbeats 4000000 in
theorem withoutGone_any {w : World} {B : List Bd} {A : Option Addr} {cap : Nat} (hrow : w.ownsRow 0 84 4 (.slice A B.length cap) B.length (B.flatMap bdC)) (hl : B.length ≤ 1200000000000) (s g : Int) (b : Nat) (h0 : w.heap[b]? = some (.cells #[.int .i64 s, .int .i64 g] 41 (0, 0))) :
  Calls Tryz.prog 85 #[.slice A B.length cap, .func (.func 108) #[] #[.pointer (some ⟨b, 0, none⟩)]] w (MadeR 84 4 bdC (goneB B (s, g)) w) := by
 have hle : B.length ≤ 9223372036854775807 := by omega
 have hbl := blk_lt h0
 have HLL := Lib.hid hl
 clear hl
 go_enter Tryz.func85, Tryz.ntmps85
 go_wp2
 go_loopw [5, 10] (fun v i wr => ∃ n : Nat, n ≤ B.length ∧ i = .int .i64 n ∧ wr.ownsRow w.heap.size 84 4 v (goneB (B.take n) (s, g)).length ((goneB (B.take n) (s, g)).flatMap bdC) ∧ Below w.heap.size w wr) (fun _ i _ => B.length - (Go.RowKit.intOf i).toNat)
 case atStart => exact ⟨0, by omega, rfl, ⟨rfl, .inl ⟨rfl, rfl⟩⟩, Below.refl _ _⟩
 case round =>
  obtain ⟨n, hn, rfl, hown, hbel⟩ := hrel
  have hsz := hbel.size
  by_cases hlt : n < B.length
  ·have hro : wr.ownsRow 0 84 4 (.slice A B.length cap) B.length (B.flatMap bdC) := row_mod hrow (Mod.ofBelow hbel) (by simp)
   obtain ⟨g0, cap0, cur0, hv, -, -, -⟩ := row_some hro (by omega)
   cases hv
   have hpc := row_piece bdC_len hro hlt 0 (bdC B[n]) (fun j u hu => by rw [Nat.zero_add]; exact hu)
   have hst := goneB_succ B (s, g) n hlt
   have hlen : (goneB (B.take n) (s, g)).length ≤ n := by
    have h1 : (goneB (B.take n) (s, g)).length ≤ (B.take n).length := List.length_filter_le _ _
    rw [List.length_take] at h1; omega
   have hg0 := row_lt hro g0 rfl
   have hni : (n : Int) < (B.length : Int) := by omega
   generalize goneB (B.take n) (s, g) = M at *
   obtain ⟨x, hx⟩ : ∃ x, B[n] = x := ⟨_, rfl⟩
   rw [hx] at hpc hst
   obtain ⟨⟨b0, b1⟩, b2, b3⟩ := x
   have hbz := (Mod.ofBelow hbel).keep h0 (by simp)
   obtain ⟨w3, hw3, hb3, hz3, hs3⟩ := box1 wr (.cells #[.int .i64 b0, .int .i64 b1, .int .i64 b2, .int .i64 b3] 84)
   have hO3 := hown.alloc (.cells #[.int .i64 b0, .int .i64 b1, .int .i64 b2, .int .i64 b3] 84)
   rw [hw3] at hO3
   have hb03 := hbel.trans (hb3.mono hsz)
   have hbz3 := (Mod.ofBelow hb3).keep hbz (by simp)
   have hk1 := cloGone_any b0 b1 b2 b3 s g b w3 hbz3
   have hl3 : wr.heap.size < w3.heap.size := by omega
   obtain ⟨r0, r1, r2, r3, rl⟩ := cells4 hz3
   obtain ⟨HP, Hst, Hlen, Hown, Hbel, HO3, Hb03, Hk, Hs3, Hz3, Hw3, H0, Hrow⟩ := hid13 hpc hst hlen hown hbel hO3 hb03 hk1 hs3 hz3 hw3 h0 hrow
   clear hpc hst hlen hown hbel hO3 hb03 hk1 hs3 hz3 hw3 h0 hrow
   clear hro hx hbz hbz3 hb3
   have HO := Lib.hid (bdC_one ((b0, b1), (b2, b3)))
   go_wp2_with (first | (refine wpList_load_flat rfl 84 (.tmp 12) rfl _ rfl [.int .i64 b0, .int .i64 b1, .int .i64 b2, .int .i64 b3] _ Tryz.underlying84 rfl (by kernel_rfl) HP.out ?_) | (refine wpList_store_new rfl 84 (.tmp 7) (.tmp 13) rfl wr (ints [0, 0, 0, 0]) [.int .i64 b0, .int .i64 b1, .int .i64 b2, .int .i64 b3] 84 rfl rfl rfl (by kernel_rfl) HO.out ?_; rw [show ([.int .i64 b0, .int .i64 b1, .int .i64 b2, .int .i64 b3] : List Value).toArray = #[.int .i64 b0, .int .i64 b1, .int .i64 b2, .int .i64 b3] from rfl, Hw3.out]; clear HO))
   refine Hk.out.mono ?_
   rintro e w4 ⟨rfl, hb4⟩
   have hz4 := (Mod.ofBelow hb4).keep Hz3.out (by simp)
   have hs4 := hb4.size
   have hs3 := Hs3.out
   have hO4 := row_mod HO3.out (Mod.ofBelow hb4) (by simp)
   have hb04 := Hb03.out.trans (hb4.mono Hb03.out.size)
   have hbs := Hb03.out.size
   cases hr : ofH (s, g) ((b0, b1), (b2, b3)) with
   | true =>
    have hst := Hst.out
    rw [if_pos hr, List.append_nil] at hst
    obtain ⟨Hst2, HO4, Hbel4, Hz4, Hs4, Hbs, Hr⟩ := hid7 hst hO4 hb04 hz4 hs4 hbs hr
    clear hst hO4 hb04 hz4 hs4 hbs hr
    clear hs3 hb4 r0 r1 r2 r3 rl
    go_wp2
    go_roundw
    case rel => exact ⟨n + 1, by omega, by go_num, by rw [Hst2.out]; exact HO4.out, Hbel4.out⟩
    case measure => simp [Go.RowKit.intOf]; omega
   | false =>
    have hst := Hst.out
    rw [if_neg (by rw [hr]; simp)] at hst
    clear r0 r1 r2 r3 rl
    obtain ⟨r0, r1, r2, r3, rl⟩ := cells4 hz4
    obtain ⟨Hst2, Hown4, Hbel4, Hs4, Hbs, Hr⟩ := hid6 hst hO4 hb04 hs4 hbs hr
    clear hst hO4 hb04 hs4 hbs hr
    clear hb4 hz4 hs3
    go_wp2_with (at_builtin; (refine app_bond1 rfl _ _ rfl w.heap.size _ M ((b0, b1), (b2, b3)) ⟨w4.heap.size, 0, none⟩ 1 rfl (Hown4.out.alloc _) rfl (new_rec (by simp) rfl) (by have := HLL.out; have := Hlen.out; omega) (by have := Hbel4.out.size; simp; omega) ?_); intro v' w5 hown5 hb5)
    go_roundw
    case rel => exact ⟨n + 1, by omega, by go_num, by rw [Hst2.out]; exact hown5, (Hbel4.out.alloc Hbel4.out.size _).trans hb5⟩
    case measure => simp [Go.RowKit.intOf]; omega
  ·obtain rfl : n = B.length := by omega
   rw [List.take_length] at hown
   obtain ⟨Hown, Hbel⟩ := hid2 hown hbel
   clear hown hbel
   clear hrow h0
   go_wp2
   go_ret
   exact ⟨_, rfl, Hown.out, Hbel.out⟩
end
end Go.Proofs.YtehjfmjibiafdaaGreat
