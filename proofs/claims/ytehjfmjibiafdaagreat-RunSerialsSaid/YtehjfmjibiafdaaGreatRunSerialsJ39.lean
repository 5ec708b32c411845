import Derived.Test.YtehjfmjibiafdaaGreatRunSerialsJ38
/- A part of the proof that RunSerials returns true. -/
namespace Go.Proofs.YtehjfmjibiafdaaGreat
open Go Go.RowKit
attribute [local go_sem] AllFrom.cons_eq AllFrom.nil_eq putF_nil putF_cons wantedL_none wantedL_some OpGoalT OpGoalV OpGoalQ OpGoalA OpGoalK YieldsR preF_nil preF_cons
theorem atI_live {sl : Sl} {L : List Rw} (h : WOk sl L) {s g : Int} (hl : liveB sl s g = true) : ∃ i : Nat,atI L (s,g) = (i : Int):=by
 rcases h.idx s g with ⟨-,i,hi⟩ | ⟨h1,-⟩
 ·exact ⟨i,atI_some hi⟩
 ·rw [hl] at h1;cases h1
theorem atI_dead {sl : Sl} {L : List Rw} (h : WOk sl L) {s g : Int} (hl : liveB sl s g = false) : atI L (s,g) = -1:=by
 rcases h.idx s g with ⟨h1,-⟩ | ⟨-,h2⟩
 ·rw [hl] at h1;cases h1
 ·exact atI_none h2
section
variable {q : Nat} {sl sl' : Sl} {L L' : List Rw} {B B' : List Bd} {w w' : World} {F G : List Nat}
set_option maxRecDepth 20000 in
set_option maxHeartbeats 4000000 in
theorem qdo_spawn (h : RepQ q sl L B w F) (hO : ZOk sl L B) (K a0 a1 a2 a3 a4 a5 a6 a7 s g ts tg k n : Int) :
  Calls Tryz.prog 15 #[.pointer (some ⟨q,0,none⟩),.agg #[.int .i64 1,.int .i64 K,.int .i64 a0,.int .i64 a1,.int .i64 a2,.int .i64 a3,.int .i64 a4,.int .i64 a5,.int .i64 a6,.int .i64 a7,.int .i64 s,.int .i64 g,.int .i64 ts,.int .i64 tg,.int .i64 k,.int .i64 n]] w (QRet q (spawnS sl (K,a0,a1,a2,a3,a4,a5,a6,a7)) (spawnL sl L (K,a0,a1,a2,a3,a4,a5,a6,a7)) (B) F w (.tuple #[.agg #[.int .i64 (spawnH sl (K,a0,a1,a2,a3,a4,a5,a6,a7)).1,.int .i64 (spawnH sl (K,a0,a1,a2,a3,a4,a5,a6,a7)).2],.int .i64 (spawnE sl (K,a0,a1,a2,a3,a4,a5,a6,a7))])):=by
 obtain ⟨w0,hw0,hb0,hz0,hs0⟩:=box1 w (.cells #[.int .i64 1,.int .i64 K,.int .i64 a0,.int .i64 a1,.int .i64 a2,.int .i64 a3,.int .i64 a4,.int .i64 a5,.int .i64 a6,.int .i64 a7,.int .i64 s,.int .i64 g,.int .i64 ts,.int .i64 tg,.int .i64 k,.int .i64 n] 52)
 obtain ⟨w1,hw1,hb1,hz1,hs1⟩:=box1 w0 (.cells #[.int .i64 0,.int .i64 0] 41)
 obtain ⟨w2,hw2,hb2,hz2,hs2⟩:=box1 w1 (.cells #[.int .i64 0,.int .i64 0] 41)
 have hb01:=hb0.trans (hb1.mono hb0.size)
 have hb02:=hb01.trans (hb2.mono hb01.size)
 have hz02:=(Mod.ofBelow hb2).keep ((Mod.ofBelow hb1).keep hz0 (by simp)) (by simp)
 have hz12:=(Mod.ofBelow hb2).keep hz1 (by simp)
 have hN0 : w.heap.size ∉ F:=fun e => by have:=h.lt _ e;omega
 have hN1 : w0.heap.size ∉ F:=fun e => by have:=h.lt _ e;omega
 have hN2 : w1.heap.size ∉ F:=fun e => by have:=h.lt _ e;omega
 have h2:=h.below hb02
 obtain ⟨o0,o1,o2,o3,o4,o5,o6,o7,o8,o9,o10,o11,o12,o13,o14,o15,ol⟩:=cells16 hz02
 obtain ⟨H,H2,Hb02,Hz02,Hz12,Hz2,HN0,HN1,HN2,Hs0,Hs1,Hs2,Hw2,HO⟩:=hid14 h h2 hb02 hz02 hz12 hz2 hN0 hN1 hN2 hs0 hs1 hs2 hw2 hO
 clear h h2 hb02 hz02 hz12 hz2 hN0 hN1 hN2 hs0 hs1 hs2 hw2 hO
 clear hb0 hb1 hb2 hz0 hz1 hb01
 go_enter Tryz.func15,Tryz.ntmps15
 go_wp2_with (first | (refine wpList_store_new rfl 41 (.tmp 6) (.tmp 9) rfl w1 (ints [0,0]) [.int .i64 0,.int .i64 0] 41 rfl rfl rfl (by kernel_rfl) (handleC_one (0,0)) ?_;rw [show ([.int .i64 0,.int .i64 0] : List Value).toArray = #[.int .i64 0,.int .i64 0] from rfl,Hw2.out]) | fail)
 clear hw0 hw1
 refine (q_spawn H2.out HO.out.w K a0 a1 a2 a3 a4 a5 a6 a7).mono ?_
 rintro e w3 ⟨rfl,hP⟩
 clear o0 o1 o2 o3 o4 o5 o6 o7 o8 o9 o10 o11 o12 o13 o14 o15 ol
 have hy:=hP.mod.keep Hz12.out HN1.out
 obtain ⟨y0,y1,yl⟩:=cells2 hy
 have f0:=blk_free hy 0
 have f1:=blk_free hy 1
 have hle0:=Hs0.out;have hle1:=blk_lt Hz12.out
 have HFin:=Lib.hid (fun V' (hm : Mod [w0.heap.size] w3 V') => OwnPost.side (own_Q _ _ _ _) hP (by omega) HN1.out Hb02.out (by omega) hm)
 clear hP hy hle0 hle1
 go_wp2
 refine bodyPost_ret (v:=.tuple #[.agg #[.int .i64 (spawnH sl (K,a0,a1,a2,a3,a4,a5,a6,a7)).1,.int .i64 (spawnH sl (K,a0,a1,a2,a3,a4,a5,a6,a7)).2],.int .i64 (spawnE sl (K,a0,a1,a2,a3,a4,a5,a6,a7))]) (by unfold results;try go_simp) rfl ?_
 refine ⟨rfl,HFin.out _ ?_⟩
 repeat (refine Mod.setCell ?_ (.inl (by simp)) _)
 exact Mod.refl _ _
set_option maxRecDepth 20000 in
set_option maxHeartbeats 4000000 in
theorem qdo_put (h : RepQ q sl L B w F) (hO : ZOk sl L B) (K a0 a1 a2 a3 a4 a5 a6 a7 s g ts tg k n : Int) :
  Calls Tryz.prog 15 #[.pointer (some ⟨q,0,none⟩),.agg #[.int .i64 3,.int .i64 K,.int .i64 a0,.int .i64 a1,.int .i64 a2,.int .i64 a3,.int .i64 a4,.int .i64 a5,.int .i64 a6,.int .i64 a7,.int .i64 s,.int .i64 g,.int .i64 ts,.int .i64 tg,.int .i64 k,.int .i64 n]] w (QRet q (sl) (putW L (s,g) k n) (B) F w (.tuple #[.agg #[.int .i64 0,.int .i64 0],.int .i64 (putE L (s,g) k n)])):=by
 obtain ⟨w0,hw0,hb0,hz0,hs0⟩:=box1 w (.cells #[.int .i64 3,.int .i64 K,.int .i64 a0,.int .i64 a1,.int .i64 a2,.int .i64 a3,.int .i64 a4,.int .i64 a5,.int .i64 a6,.int .i64 a7,.int .i64 s,.int .i64 g,.int .i64 ts,.int .i64 tg,.int .i64 k,.int .i64 n] 52)
 obtain ⟨w1,hw1,hb1,hz1,hs1⟩:=box1 w0 (.cells #[.int .i64 0,.int .i64 0] 41)
 obtain ⟨w2,hw2,hb2,hz2,hs2⟩:=box1 w1 (.cells #[.int .i64 0,.int .i64 0] 41)
 have hb01:=hb0.trans (hb1.mono hb0.size)
 have hb02:=hb01.trans (hb2.mono hb01.size)
 have hz02:=(Mod.ofBelow hb2).keep ((Mod.ofBelow hb1).keep hz0 (by simp)) (by simp)
 have hz12:=(Mod.ofBelow hb2).keep hz1 (by simp)
 have hN0 : w.heap.size ∉ F:=fun e => by have:=h.lt _ e;omega
 have hN1 : w0.heap.size ∉ F:=fun e => by have:=h.lt _ e;omega
 have hN2 : w1.heap.size ∉ F:=fun e => by have:=h.lt _ e;omega
 have h2:=h.below hb02
 obtain ⟨o0,o1,o2,o3,o4,o5,o6,o7,o8,o9,o10,o11,o12,o13,o14,o15,ol⟩:=cells16 hz02
 obtain ⟨H,H2,Hb02,Hz02,Hz12,Hz2,HN0,HN1,HN2,Hs0,Hs1,Hs2,Hw2,HO⟩:=hid14 h h2 hb02 hz02 hz12 hz2 hN0 hN1 hN2 hs0 hs1 hs2 hw2 hO
 clear h h2 hb02 hz02 hz12 hz2 hN0 hN1 hN2 hs0 hs1 hs2 hw2 hO
 clear hb0 hb1 hb2 hz0 hz1 hb01
 go_enter Tryz.func15,Tryz.ntmps15
 go_wp2_with (first | (refine wpList_store_new rfl 41 (.tmp 6) (.tmp 9) rfl w1 (ints [0,0]) [.int .i64 0,.int .i64 0] 41 rfl rfl rfl (by kernel_rfl) (handleC_one (0,0)) ?_;rw [show ([.int .i64 0,.int .i64 0] : List Value).toArray = #[.int .i64 0,.int .i64 0] from rfl,Hw2.out]) | fail)
 clear hw0 hw1
 clear o0 o1 o2 o3 o4 o5 o6 o7 o8 o9 o10 o11 o12 o13 o14 o15 ol
 refine wp_planK [] 9 [1] [some 23,some 24,some 25,some 26,some 27,some 28,some 29,some 30,some 31,none,some 5] [[],[],[],[2],[],[4],[],[6],[1,2,3,4,5,6,7],[0,1,2,3,4,5,6,7,8],[0,1,2,3,4,5,6,7,8,9]] [0,1,2,3,4,5,6,7,8] (fun Lf σ W => ITurn 8 w2 F (RepQ q sl (putW L (s,g) k n) B) Lf σ W) mixed rfl (by kernel_rfl) (by decide) (by decide) (by decide) (ITurn.start below_drew) rfl ?_
 iterate 9 apply Exists.intro
 refine ⟨rfl,?_,?_⟩
 ·simp only [tS,List.take_zero,AllFrom.cons_eq,AllFrom.nil_eq,OpGoalK]
  refine ⟨?_,?_,?_,?_,?_,?_,?_,?_,?_,trivial⟩
  all_goals (intro L' σ V h1 h2 h3 hI hp;have HA1:=Lib.hid h1;have HA2:=Lib.hid h2;have HA3:=Lib.hid h3;clear h1 h2 h3;(try simp only [gZ,gS,preK_cons,preK_nil] at hp);(try simp only [List.not_mem_nil,false_or,and_true] at hp);(first | (have hq : True:=hp;clear hq hp) | skip);have HI:=Lib.hid hI;clear hI)
  all_goals (
   have hk:=HI.out.k
   have hoV:=hk.keep Hz02.out HN0.out
   have heV:=hk.keep Hz2.out HN2.out
   have o0:=blk_cell hoV 0
   have o1:=blk_cell hoV 1
   have o2:=blk_cell hoV 2
   have o3:=blk_cell hoV 3
   have o4:=blk_cell hoV 4
   have o5:=blk_cell hoV 5
   have o6:=blk_cell hoV 6
   have o7:=blk_cell hoV 7
   have o8:=blk_cell hoV 8
   have o9:=blk_cell hoV 9
   have o10:=blk_cell hoV 10
   have o11:=blk_cell hoV 11
   have o12:=blk_cell hoV 12
   have o13:=blk_cell hoV 13
   have o14:=blk_cell hoV 14
   have o15:=blk_cell hoV 15
   simp only [eA,eZ,eS] at o0 o1 o2 o3 o4 o5 o6 o7 o8 o9 o10 o11 o12 o13 o14 o15
   have ol:=blk_lt hoV
   have e0:=blk_cell heV 0
   have e1:=blk_cell heV 1
   simp only [eA,eZ,eS] at e0 e1
   have el:=blk_lt heV
   (try (have hb:=HI.out.s0 (by first | exact HA3.out 8 (by decide) | exact HA1.out);have HRV:=Lib.hid (H2.out.below hb);clear hb))
   clear hk hoV heV)
  iterate 8 · (go_simp;exact ⟨.inr rfl,HI.out.read (by decide) _⟩)
  ·(go_simp;refine (q_put HRV.out HO.out.w s g k n).mono ?_;rintro e V2 ⟨rfl,hp2⟩;exact ⟨_,rfl,.inr rfl,HI.out.turn HA1.out hp2 _⟩)
 ·intro L' σ V h1 hI hp
  have hP:=hI.s1 (h1 8 (by decide))
  clear h1 hI
  simp only [preK_cons,preK_nil,gZ,gS] at hp;simp only [List.not_mem_nil,false_or,and_true] at hp
  have hy:=hP.mod.keep Hz12.out HN1.out
  obtain ⟨y0,y1,yl⟩:=cells2 hy
  have f0:=blk_free hy 0
  have f1:=blk_free hy 1
  have hle0:=Hs0.out;have hle1:=blk_lt Hz12.out
  have HFin:=Lib.hid (fun V' (hm : Mod [w0.heap.size] V V') => OwnPost.side (own_Q _ _ _ _) hP (by omega) HN1.out Hb02.out (by omega) hm)
  clear hP hy hle0 hle1
  simp only [dS,List.drop_zero]
  go_simp
  clear hp
  go_wp2
  refine ⟨rfl,?_⟩
  go_wp2
  refine bodyPost_ret (v:=.tuple #[.agg #[.int .i64 0,.int .i64 0],.int .i64 (putE L (s,g) k n)]) (by unfold results;try go_simp) rfl ?_
  refine ⟨rfl,HFin.out _ ?_⟩
  repeat (refine Mod.setCell ?_ (.inl (by simp)) _)
  exact Mod.refl _ _
set_option maxRecDepth 20000 in
set_option maxHeartbeats 4000000 in
theorem qdo_drop (h : RepQ q sl L B w F) (hO : ZOk sl L B) (K a0 a1 a2 a3 a4 a5 a6 a7 s g ts tg k n : Int) :
  Calls Tryz.prog 15 #[.pointer (some ⟨q,0,none⟩),.agg #[.int .i64 4,.int .i64 K,.int .i64 a0,.int .i64 a1,.int .i64 a2,.int .i64 a3,.int .i64 a4,.int .i64 a5,.int .i64 a6,.int .i64 a7,.int .i64 s,.int .i64 g,.int .i64 ts,.int .i64 tg,.int .i64 k,.int .i64 n]] w (QRet q (sl) (dropL L (s,g) k) (B) F w (.tuple #[.agg #[.int .i64 0,.int .i64 0],.int .i64 (dropE L (s,g) k)])):=by
 obtain ⟨w0,hw0,hb0,hz0,hs0⟩:=box1 w (.cells #[.int .i64 4,.int .i64 K,.int .i64 a0,.int .i64 a1,.int .i64 a2,.int .i64 a3,.int .i64 a4,.int .i64 a5,.int .i64 a6,.int .i64 a7,.int .i64 s,.int .i64 g,.int .i64 ts,.int .i64 tg,.int .i64 k,.int .i64 n] 52)
 obtain ⟨w1,hw1,hb1,hz1,hs1⟩:=box1 w0 (.cells #[.int .i64 0,.int .i64 0] 41)
 obtain ⟨w2,hw2,hb2,hz2,hs2⟩:=box1 w1 (.cells #[.int .i64 0,.int .i64 0] 41)
 have hb01:=hb0.trans (hb1.mono hb0.size)
 have hb02:=hb01.trans (hb2.mono hb01.size)
 have hz02:=(Mod.ofBelow hb2).keep ((Mod.ofBelow hb1).keep hz0 (by simp)) (by simp)
 have hz12:=(Mod.ofBelow hb2).keep hz1 (by simp)
 have hN0 : w.heap.size ∉ F:=fun e => by have:=h.lt _ e;omega
 have hN1 : w0.heap.size ∉ F:=fun e => by have:=h.lt _ e;omega
 have hN2 : w1.heap.size ∉ F:=fun e => by have:=h.lt _ e;omega
 have h2:=h.below hb02
 obtain ⟨o0,o1,o2,o3,o4,o5,o6,o7,o8,o9,o10,o11,o12,o13,o14,o15,ol⟩:=cells16 hz02
 obtain ⟨H,H2,Hb02,Hz02,Hz12,Hz2,HN0,HN1,HN2,Hs0,Hs1,Hs2,Hw2,HO⟩:=hid14 h h2 hb02 hz02 hz12 hz2 hN0 hN1 hN2 hs0 hs1 hs2 hw2 hO
 clear h h2 hb02 hz02 hz12 hz2 hN0 hN1 hN2 hs0 hs1 hs2 hw2 hO
 clear hb0 hb1 hb2 hz0 hz1 hb01
 go_enter Tryz.func15,Tryz.ntmps15
 go_wp2_with (first | (refine wpList_store_new rfl 41 (.tmp 6) (.tmp 9) rfl w1 (ints [0,0]) [.int .i64 0,.int .i64 0] 41 rfl rfl rfl (by kernel_rfl) (handleC_one (0,0)) ?_;rw [show ([.int .i64 0,.int .i64 0] : List Value).toArray = #[.int .i64 0,.int .i64 0] from rfl,Hw2.out]) | fail)
 clear hw0 hw1
 clear o0 o1 o2 o3 o4 o5 o6 o7 o8 o9 o10 o11 o12 o13 o14 o15 ol
 refine wp_planK [] 7 [1] [some 34,some 35,some 36,some 37,some 38,some 39,some 40,none,some 5] [[],[],[],[2],[],[4],[1,2,3,4,5],[0,1,2,3,4,5,6],[0,1,2,3,4,5,6,7]] [0,1,2,3,4,5,6] (fun Lf σ W => ITurn 6 w2 F (RepQ q sl (dropL L (s,g) k) B) Lf σ W) mixed rfl (by kernel_rfl) (by decide) (by decide) (by decide) (ITurn.start below_drew) rfl ?_
 iterate 7 apply Exists.intro
 refine ⟨rfl,?_,?_⟩
 ·simp only [tS,List.take_zero,AllFrom.cons_eq,AllFrom.nil_eq,OpGoalK]
  refine ⟨?_,?_,?_,?_,?_,?_,?_,trivial⟩
  all_goals (intro L' σ V h1 h2 h3 hI hp;have HA1:=Lib.hid h1;have HA2:=Lib.hid h2;have HA3:=Lib.hid h3;clear h1 h2 h3;(try simp only [gZ,gS,preK_cons,preK_nil] at hp);(try simp only [List.not_mem_nil,false_or,and_true] at hp);(first | (have hq : True:=hp;clear hq hp) | skip);have HI:=Lib.hid hI;clear hI)
  all_goals (
   have hk:=HI.out.k
   have hoV:=hk.keep Hz02.out HN0.out
   have heV:=hk.keep Hz2.out HN2.out
   have o0:=blk_cell hoV 0
   have o1:=blk_cell hoV 1
   have o2:=blk_cell hoV 2
   have o3:=blk_cell hoV 3
   have o4:=blk_cell hoV 4
   have o5:=blk_cell hoV 5
   have o6:=blk_cell hoV 6
   have o7:=blk_cell hoV 7
   have o8:=blk_cell hoV 8
   have o9:=blk_cell hoV 9
   have o10:=blk_cell hoV 10
   have o11:=blk_cell hoV 11
   have o12:=blk_cell hoV 12
   have o13:=blk_cell hoV 13
   have o14:=blk_cell hoV 14
   have o15:=blk_cell hoV 15
   simp only [eA,eZ,eS] at o0 o1 o2 o3 o4 o5 o6 o7 o8 o9 o10 o11 o12 o13 o14 o15
   have ol:=blk_lt hoV
   have e0:=blk_cell heV 0
   have e1:=blk_cell heV 1
   simp only [eA,eZ,eS] at e0 e1
   have el:=blk_lt heV
   (try (have hb:=HI.out.s0 (by first | exact HA3.out 6 (by decide) | exact HA1.out);have HRV:=Lib.hid (H2.out.below hb);clear hb))
   clear hk hoV heV)
  iterate 6 · (go_simp;exact ⟨.inr rfl,HI.out.read (by decide) _⟩)
  ·(go_simp;refine (q_drop HRV.out HO.out.w s g k).mono ?_;rintro e V2 ⟨rfl,hp2⟩;exact ⟨_,rfl,.inr rfl,HI.out.turn HA1.out hp2 _⟩)
 ·intro L' σ V h1 hI hp
  have hP:=hI.s1 (h1 6 (by decide))
  clear h1 hI
  simp only [preK_cons,preK_nil,gZ,gS] at hp;simp only [List.not_mem_nil,false_or,and_true] at hp
  have hy:=hP.mod.keep Hz12.out HN1.out
  obtain ⟨y0,y1,yl⟩:=cells2 hy
  have f0:=blk_free hy 0
  have f1:=blk_free hy 1
  have hle0:=Hs0.out;have hle1:=blk_lt Hz12.out
  have HFin:=Lib.hid (fun V' (hm : Mod [w0.heap.size] V V') => OwnPost.side (own_Q _ _ _ _) hP (by omega) HN1.out Hb02.out (by omega) hm)
  clear hP hy hle0 hle1
  simp only [dS,List.drop_zero]
  go_simp
  clear hp
  go_wp2
  refine ⟨rfl,?_⟩
  go_wp2
  refine bodyPost_ret (v:=.tuple #[.agg #[.int .i64 0,.int .i64 0],.int .i64 (dropE L (s,g) k)]) (by unfold results;try go_simp) rfl ?_
  refine ⟨rfl,HFin.out _ ?_⟩
  repeat (refine Mod.setCell ?_ (.inl (by simp)) _)
  exact Mod.refl _ _
set_option maxRecDepth 20000 in
set_option maxHeartbeats 4000000 in
theorem qdo_other (h : RepQ q sl L B w F) (hO : ZOk sl L B) (K a0 a1 a2 a3 a4 a5 a6 a7 s g ts tg k n : Int) (d : Int) (g1 : d ≠ 1) (g2 : d ≠ 2) (g3 : d ≠ 3) (g4 : d ≠ 4) (g5 : d ≠ 5) (g6 : d ≠ 6) :
  Calls Tryz.prog 15 #[.pointer (some ⟨q,0,none⟩),.agg #[.int .i64 d,.int .i64 K,.int .i64 a0,.int .i64 a1,.int .i64 a2,.int .i64 a3,.int .i64 a4,.int .i64 a5,.int .i64 a6,.int .i64 a7,.int .i64 s,.int .i64 g,.int .i64 ts,.int .i64 tg,.int .i64 k,.int .i64 n]] w (QRet q (sl) (L) (B) F w (.tuple #[.agg #[.int .i64 0,.int .i64 0],.int .i64 1])):=by
 obtain ⟨w0,hw0,hb0,hz0,hs0⟩:=box1 w (.cells #[.int .i64 d,.int .i64 K,.int .i64 a0,.int .i64 a1,.int .i64 a2,.int .i64 a3,.int .i64 a4,.int .i64 a5,.int .i64 a6,.int .i64 a7,.int .i64 s,.int .i64 g,.int .i64 ts,.int .i64 tg,.int .i64 k,.int .i64 n] 52)
 obtain ⟨w1,hw1,hb1,hz1,hs1⟩:=box1 w0 (.cells #[.int .i64 0,.int .i64 0] 41)
 obtain ⟨w2,hw2,hb2,hz2,hs2⟩:=box1 w1 (.cells #[.int .i64 0,.int .i64 0] 41)
 have hb01:=hb0.trans (hb1.mono hb0.size)
 have hb02:=hb01.trans (hb2.mono hb01.size)
 have hz02:=(Mod.ofBelow hb2).keep ((Mod.ofBelow hb1).keep hz0 (by simp)) (by simp)
 have hz12:=(Mod.ofBelow hb2).keep hz1 (by simp)
 have hN0 : w.heap.size ∉ F:=fun e => by have:=h.lt _ e;omega
 have hN1 : w0.heap.size ∉ F:=fun e => by have:=h.lt _ e;omega
 have hN2 : w1.heap.size ∉ F:=fun e => by have:=h.lt _ e;omega
 have h2:=h.below hb02
 obtain ⟨o0,o1,o2,o3,o4,o5,o6,o7,o8,o9,o10,o11,o12,o13,o14,o15,ol⟩:=cells16 hz02
 obtain ⟨H,H2,Hb02,Hz02,Hz12,Hz2,HN0,HN1,HN2,Hs0,Hs1,Hs2,Hw2,HO⟩:=hid14 h h2 hb02 hz02 hz12 hz2 hN0 hN1 hN2 hs0 hs1 hs2 hw2 hO
 clear h h2 hb02 hz02 hz12 hz2 hN0 hN1 hN2 hs0 hs1 hs2 hw2 hO
 clear hb0 hb1 hb2 hz0 hz1 hb01
 have e1 : (d == 1) = false:=by simpa using g1
 have e2 : (d == 2) = false:=by simpa using g2
 have e3 : (d == 3) = false:=by simpa using g3
 have e4 : (d == 4) = false:=by simpa using g4
 have e5 : (d == 5) = false:=by simpa using g5
 have e6 : (d == 6) = false:=by simpa using g6
 have hP:=OwnPost.ofBelow (own_Q _ _ _ _) H2.out (Below.refl _ _)
 have hy:=hP.mod.keep Hz12.out HN1.out
 obtain ⟨y0,y1,yl⟩:=cells2 hy
 have f0:=blk_free hy 0
 have f1:=blk_free hy 1
 have heV:=hP.mod.keep Hz2.out HN2.out
 obtain ⟨e0,e1,el⟩:=cells2 heV
 have hle0:=Hs0.out;have hle1:=blk_lt Hz12.out
 have HFin:=Lib.hid (fun V' (hm : Mod [w0.heap.size] w2 V') => OwnPost.side (own_Q _ _ _ _) hP (by omega) HN1.out Hb02.out (by omega) hm)
 clear hP hy hle0 hle1 heV
 clear g1 g2 g3 g4 g5 g6
 go_enter Tryz.func15,Tryz.ntmps15
 go_wp2_with (first | (refine wpList_store_new rfl 41 (.tmp 6) (.tmp 9) rfl w1 (ints [0,0]) [.int .i64 0,.int .i64 0] 41 rfl rfl rfl (by kernel_rfl) (handleC_one (0,0)) ?_;rw [show ([.int .i64 0,.int .i64 0] : List Value).toArray = #[.int .i64 0,.int .i64 0] from rfl,Hw2.out]) | fail)
 clear hw0 hw1
 refine bodyPost_ret (v:=.tuple #[.agg #[.int .i64 0,.int .i64 0],.int .i64 1]) (by unfold results;try go_simp) rfl ?_
 refine ⟨rfl,HFin.out _ ?_⟩
 repeat (refine Mod.setCell ?_ (.inl (by simp)) _)
 exact Mod.refl _ _
set_option maxRecDepth 20000 in
set_option maxHeartbeats 4000000 in
theorem qdo_adoptno1 (h : RepQ q sl L B w F) (hO : ZOk sl L B) (K a0 a1 a2 a3 a4 a5 a6 a7 s g ts tg k n : Int) (hl3 : liveB sl s g = false) :
  Calls Tryz.prog 15 #[.pointer (some ⟨q,0,none⟩),.agg #[.int .i64 5,.int .i64 K,.int .i64 a0,.int .i64 a1,.int .i64 a2,.int .i64 a3,.int .i64 a4,.int .i64 a5,.int .i64 a6,.int .i64 a7,.int .i64 s,.int .i64 g,.int .i64 ts,.int .i64 tg,.int .i64 k,.int .i64 n]] w (QRet q (sl) (L) (B) F w (.tuple #[.agg #[.int .i64 0,.int .i64 0],.int .i64 7])):=by
 obtain ⟨w0,hw0,hb0,hz0,hs0⟩:=box1 w (.cells #[.int .i64 5,.int .i64 K,.int .i64 a0,.int .i64 a1,.int .i64 a2,.int .i64 a3,.int .i64 a4,.int .i64 a5,.int .i64 a6,.int .i64 a7,.int .i64 s,.int .i64 g,.int .i64 ts,.int .i64 tg,.int .i64 k,.int .i64 n] 52)
 obtain ⟨w1,hw1,hb1,hz1,hs1⟩:=box1 w0 (.cells #[.int .i64 0,.int .i64 0] 41)
 obtain ⟨w2,hw2,hb2,hz2,hs2⟩:=box1 w1 (.cells #[.int .i64 0,.int .i64 0] 41)
 have hb01:=hb0.trans (hb1.mono hb0.size)
 have hb02:=hb01.trans (hb2.mono hb01.size)
 have hz02:=(Mod.ofBelow hb2).keep ((Mod.ofBelow hb1).keep hz0 (by simp)) (by simp)
 have hz12:=(Mod.ofBelow hb2).keep hz1 (by simp)
 have hN0 : w.heap.size ∉ F:=fun e => by have:=h.lt _ e;omega
 have hN1 : w0.heap.size ∉ F:=fun e => by have:=h.lt _ e;omega
 have hN2 : w1.heap.size ∉ F:=fun e => by have:=h.lt _ e;omega
 have h2:=h.below hb02
 obtain ⟨o0,o1,o2,o3,o4,o5,o6,o7,o8,o9,o10,o11,o12,o13,o14,o15,ol⟩:=cells16 hz02
 obtain ⟨H,H2,Hb02,Hz02,Hz12,Hz2,HN0,HN1,HN2,Hs0,Hs1,Hs2,Hw2,HO⟩:=hid14 h h2 hb02 hz02 hz12 hz2 hN0 hN1 hN2 hs0 hs1 hs2 hw2 hO
 clear h h2 hb02 hz02 hz12 hz2 hN0 hN1 hN2 hs0 hs1 hs2 hw2 hO
 clear hb0 hb1 hb2 hz0 hz1 hb01
 have HAt3:=Lib.hid (atI_dead HO.out.w hl3)
 have Hl3:=Lib.hid hl3
 clear hl3
 go_enter Tryz.func15,Tryz.ntmps15
 go_wp2_with (first | (refine wpList_store_new rfl 41 (.tmp 6) (.tmp 9) rfl w1 (ints [0,0]) [.int .i64 0,.int .i64 0] 41 rfl rfl rfl (by kernel_rfl) (handleC_one (0,0)) ?_;rw [show ([.int .i64 0,.int .i64 0] : List Value).toArray = #[.int .i64 0,.int .i64 0] from rfl,Hw2.out]) | fail)
 clear hw0 hw1
 refine (q_at H2.out HO.out.w s g).mono ?_
 rintro e w3 ⟨rfl,hb3⟩
 rw [HAt3.out]
 have hb03:=Hb02.out.trans (hb3.mono Hb02.out.size)
 have h3:=H2.out.below hb3
 have hz03:=(Mod.ofBelow hb3).keep Hz02.out (by simp)
 have hz13:=(Mod.ofBelow hb3).keep Hz12.out (by simp)
 have hz23:=(Mod.ofBelow hb3).keep Hz2.out (by simp)
 clear o0 o1 o2 o3 o4 o5 o6 o7 o8 o9 o10 o11 o12 o13 o14 o15 ol
 obtain ⟨o0,o1,o2,o3,o4,o5,o6,o7,o8,o9,o10,o11,o12,o13,o14,o15,ol⟩:=cells16 hz03
 obtain ⟨Hb03,H3,Hz03,Hz13,Hz23⟩:=hid5 hb03 h3 hz03 hz13 hz23
 clear hb03 h3 hz03 hz13 hz23
 clear hb3
 have hP:=OwnPost.ofBelow (own_Q _ _ _ _) H3.out (Below.refl _ _)
 have hy:=hP.mod.keep Hz13.out HN1.out
 obtain ⟨y0,y1,yl⟩:=cells2 hy
 have f0:=blk_free hy 0
 have f1:=blk_free hy 1
 have heV:=hP.mod.keep Hz23.out HN2.out
 obtain ⟨e0,e1,el⟩:=cells2 heV
 have hle0:=Hs0.out;have hle1:=blk_lt Hz13.out
 have HFin:=Lib.hid (fun V' (hm : Mod [w0.heap.size] w3 V') => OwnPost.side (own_Q _ _ _ _) hP (by omega) HN1.out Hb03.out (by omega) hm)
 clear hP hy hle0 hle1 heV
 go_wp2
 refine bodyPost_ret (v:=.tuple #[.agg #[.int .i64 0,.int .i64 0],.int .i64 7]) (by unfold results;try go_simp) rfl ?_
 refine ⟨rfl,HFin.out _ ?_⟩
 repeat (refine Mod.setCell ?_ (.inl (by simp)) _)
 exact Mod.refl _ _
set_option maxRecDepth 20000 in
set_option maxHeartbeats 4000000 in
theorem qdo_adoptno2 (h : RepQ q sl L B w F) (hO : ZOk sl L B) (K a0 a1 a2 a3 a4 a5 a6 a7 s g ts tg k n : Int) (hl3 : liveB sl s g = true) (hl4 : liveB sl ts tg = false) :
  Calls Tryz.prog 15 #[.pointer (some ⟨q,0,none⟩),.agg #[.int .i64 5,.int .i64 K,.int .i64 a0,.int .i64 a1,.int .i64 a2,.int .i64 a3,.int .i64 a4,.int .i64 a5,.int .i64 a6,.int .i64 a7,.int .i64 s,.int .i64 g,.int .i64 ts,.int .i64 tg,.int .i64 k,.int .i64 n]] w (QRet q (sl) (L) (B) F w (.tuple #[.agg #[.int .i64 0,.int .i64 0],.int .i64 7])):=by
 obtain ⟨w0,hw0,hb0,hz0,hs0⟩:=box1 w (.cells #[.int .i64 5,.int .i64 K,.int .i64 a0,.int .i64 a1,.int .i64 a2,.int .i64 a3,.int .i64 a4,.int .i64 a5,.int .i64 a6,.int .i64 a7,.int .i64 s,.int .i64 g,.int .i64 ts,.int .i64 tg,.int .i64 k,.int .i64 n] 52)
 obtain ⟨w1,hw1,hb1,hz1,hs1⟩:=box1 w0 (.cells #[.int .i64 0,.int .i64 0] 41)
 obtain ⟨w2,hw2,hb2,hz2,hs2⟩:=box1 w1 (.cells #[.int .i64 0,.int .i64 0] 41)
 have hb01:=hb0.trans (hb1.mono hb0.size)
 have hb02:=hb01.trans (hb2.mono hb01.size)
 have hz02:=(Mod.ofBelow hb2).keep ((Mod.ofBelow hb1).keep hz0 (by simp)) (by simp)
 have hz12:=(Mod.ofBelow hb2).keep hz1 (by simp)
 have hN0 : w.heap.size ∉ F:=fun e => by have:=h.lt _ e;omega
 have hN1 : w0.heap.size ∉ F:=fun e => by have:=h.lt _ e;omega
 have hN2 : w1.heap.size ∉ F:=fun e => by have:=h.lt _ e;omega
 have h2:=h.below hb02
 obtain ⟨o0,o1,o2,o3,o4,o5,o6,o7,o8,o9,o10,o11,o12,o13,o14,o15,ol⟩:=cells16 hz02
 obtain ⟨H,H2,Hb02,Hz02,Hz12,Hz2,HN0,HN1,HN2,Hs0,Hs1,Hs2,Hw2,HO⟩:=hid14 h h2 hb02 hz02 hz12 hz2 hN0 hN1 hN2 hs0 hs1 hs2 hw2 hO
 clear h h2 hb02 hz02 hz12 hz2 hN0 hN1 hN2 hs0 hs1 hs2 hw2 hO
 clear hb0 hb1 hb2 hz0 hz1 hb01
 obtain ⟨i3,hAt3⟩:=atI_live HO.out.w (s:=s) (g:=g) hl3
 have hlt3 : decide ((i3 : Int) < 0) = false:=by simp
 obtain ⟨HAt3,Hl3⟩:=hid2 hAt3 hl3
 clear hAt3 hl3
 have HAt4:=Lib.hid (atI_dead HO.out.w hl4)
 have Hl4:=Lib.hid hl4
 clear hl4
 go_enter Tryz.func15,Tryz.ntmps15
 go_wp2_with (first | (refine wpList_store_new rfl 41 (.tmp 6) (.tmp 9) rfl w1 (ints [0,0]) [.int .i64 0,.int .i64 0] 41 rfl rfl rfl (by kernel_rfl) (handleC_one (0,0)) ?_;rw [show ([.int .i64 0,.int .i64 0] : List Value).toArray = #[.int .i64 0,.int .i64 0] from rfl,Hw2.out]) | fail)
 clear hw0 hw1
 refine (q_at H2.out HO.out.w s g).mono ?_
 rintro e w3 ⟨rfl,hb3⟩
 rw [HAt3.out]
 have hb03:=Hb02.out.trans (hb3.mono Hb02.out.size)
 have h3:=H2.out.below hb3
 have hz03:=(Mod.ofBelow hb3).keep Hz02.out (by simp)
 have hz13:=(Mod.ofBelow hb3).keep Hz12.out (by simp)
 have hz23:=(Mod.ofBelow hb3).keep Hz2.out (by simp)
 clear o0 o1 o2 o3 o4 o5 o6 o7 o8 o9 o10 o11 o12 o13 o14 o15 ol
 obtain ⟨o0,o1,o2,o3,o4,o5,o6,o7,o8,o9,o10,o11,o12,o13,o14,o15,ol⟩:=cells16 hz03
 obtain ⟨Hb03,H3,Hz03,Hz13,Hz23⟩:=hid5 hb03 h3 hz03 hz13 hz23
 clear hb03 h3 hz03 hz13 hz23
 clear hb3
 go_wp2_with fail
 refine (q_at H3.out HO.out.w ts tg).mono ?_
 rintro e w4 ⟨rfl,hb4⟩
 rw [HAt4.out]
 have hb04:=Hb03.out.trans (hb4.mono Hb03.out.size)
 have h4:=H3.out.below hb4
 have hz04:=(Mod.ofBelow hb4).keep Hz03.out (by simp)
 have hz14:=(Mod.ofBelow hb4).keep Hz13.out (by simp)
 have hz24:=(Mod.ofBelow hb4).keep Hz23.out (by simp)
 clear o0 o1 o2 o3 o4 o5 o6 o7 o8 o9 o10 o11 o12 o13 o14 o15 ol
 obtain ⟨o0,o1,o2,o3,o4,o5,o6,o7,o8,o9,o10,o11,o12,o13,o14,o15,ol⟩:=cells16 hz04
 obtain ⟨Hb04,H4,Hz04,Hz14,Hz24⟩:=hid5 hb04 h4 hz04 hz14 hz24
 clear hb04 h4 hz04 hz14 hz24
 clear hb4
 have hP:=OwnPost.ofBelow (own_Q _ _ _ _) H4.out (Below.refl _ _)
 have hy:=hP.mod.keep Hz14.out HN1.out
 obtain ⟨y0,y1,yl⟩:=cells2 hy
 have f0:=blk_free hy 0
 have f1:=blk_free hy 1
 have heV:=hP.mod.keep Hz24.out HN2.out
 obtain ⟨e0,e1,el⟩:=cells2 heV
 have hle0:=Hs0.out;have hle1:=blk_lt Hz14.out
 have HFin:=Lib.hid (fun V' (hm : Mod [w0.heap.size] w4 V') => OwnPost.side (own_Q _ _ _ _) hP (by omega) HN1.out Hb04.out (by omega) hm)
 clear hP hy hle0 hle1 heV
 go_wp2
 refine bodyPost_ret (v:=.tuple #[.agg #[.int .i64 0,.int .i64 0],.int .i64 7]) (by unfold results;try go_simp) rfl ?_
 refine ⟨rfl,HFin.out _ ?_⟩
 repeat (refine Mod.setCell ?_ (.inl (by simp)) _)
 exact Mod.refl _ _
set_option maxRecDepth 20000 in
set_option maxHeartbeats 4000000 in
theorem qdo_loosenno (h : RepQ q sl L B w F) (hO : ZOk sl L B) (K a0 a1 a2 a3 a4 a5 a6 a7 s g ts tg k n : Int) (hl3 : liveB sl s g = false) :
  Calls Tryz.prog 15 #[.pointer (some ⟨q,0,none⟩),.agg #[.int .i64 6,.int .i64 K,.int .i64 a0,.int .i64 a1,.int .i64 a2,.int .i64 a3,.int .i64 a4,.int .i64 a5,.int .i64 a6,.int .i64 a7,.int .i64 s,.int .i64 g,.int .i64 ts,.int .i64 tg,.int .i64 k,.int .i64 n]] w (QRet q (sl) (L) (B) F w (.tuple #[.agg #[.int .i64 0,.int .i64 0],.int .i64 7])):=by
 obtain ⟨w0,hw0,hb0,hz0,hs0⟩:=box1 w (.cells #[.int .i64 6,.int .i64 K,.int .i64 a0,.int .i64 a1,.int .i64 a2,.int .i64 a3,.int .i64 a4,.int .i64 a5,.int .i64 a6,.int .i64 a7,.int .i64 s,.int .i64 g,.int .i64 ts,.int .i64 tg,.int .i64 k,.int .i64 n] 52)
 obtain ⟨w1,hw1,hb1,hz1,hs1⟩:=box1 w0 (.cells #[.int .i64 0,.int .i64 0] 41)
 obtain ⟨w2,hw2,hb2,hz2,hs2⟩:=box1 w1 (.cells #[.int .i64 0,.int .i64 0] 41)
 have hb01:=hb0.trans (hb1.mono hb0.size)
 have hb02:=hb01.trans (hb2.mono hb01.size)
 have hz02:=(Mod.ofBelow hb2).keep ((Mod.ofBelow hb1).keep hz0 (by simp)) (by simp)
 have hz12:=(Mod.ofBelow hb2).keep hz1 (by simp)
 have hN0 : w.heap.size ∉ F:=fun e => by have:=h.lt _ e;omega
 have hN1 : w0.heap.size ∉ F:=fun e => by have:=h.lt _ e;omega
 have hN2 : w1.heap.size ∉ F:=fun e => by have:=h.lt _ e;omega
 have h2:=h.below hb02
 obtain ⟨o0,o1,o2,o3,o4,o5,o6,o7,o8,o9,o10,o11,o12,o13,o14,o15,ol⟩:=cells16 hz02
 obtain ⟨H,H2,Hb02,Hz02,Hz12,Hz2,HN0,HN1,HN2,Hs0,Hs1,Hs2,Hw2,HO⟩:=hid14 h h2 hb02 hz02 hz12 hz2 hN0 hN1 hN2 hs0 hs1 hs2 hw2 hO
 clear h h2 hb02 hz02 hz12 hz2 hN0 hN1 hN2 hs0 hs1 hs2 hw2 hO
 clear hb0 hb1 hb2 hz0 hz1 hb01
 have HAt3:=Lib.hid (atI_dead HO.out.w hl3)
 have Hl3:=Lib.hid hl3
 clear hl3
 go_enter Tryz.func15,Tryz.ntmps15
 go_wp2_with (first | (refine wpList_store_new rfl 41 (.tmp 6) (.tmp 9) rfl w1 (ints [0,0]) [.int .i64 0,.int .i64 0] 41 rfl rfl rfl (by kernel_rfl) (handleC_one (0,0)) ?_;rw [show ([.int .i64 0,.int .i64 0] : List Value).toArray = #[.int .i64 0,.int .i64 0] from rfl,Hw2.out]) | fail)
 clear hw0 hw1
 refine (q_at H2.out HO.out.w s g).mono ?_
 rintro e w3 ⟨rfl,hb3⟩
 rw [HAt3.out]
 have hb03:=Hb02.out.trans (hb3.mono Hb02.out.size)
 have h3:=H2.out.below hb3
 have hz03:=(Mod.ofBelow hb3).keep Hz02.out (by simp)
 have hz13:=(Mod.ofBelow hb3).keep Hz12.out (by simp)
 have hz23:=(Mod.ofBelow hb3).keep Hz2.out (by simp)
 clear o0 o1 o2 o3 o4 o5 o6 o7 o8 o9 o10 o11 o12 o13 o14 o15 ol
 obtain ⟨o0,o1,o2,o3,o4,o5,o6,o7,o8,o9,o10,o11,o12,o13,o14,o15,ol⟩:=cells16 hz03
 obtain ⟨Hb03,H3,Hz03,Hz13,Hz23⟩:=hid5 hb03 h3 hz03 hz13 hz23
 clear hb03 h3 hz03 hz13 hz23
 clear hb3
 have hP:=OwnPost.ofBelow (own_Q _ _ _ _) H3.out (Below.refl _ _)
 have hy:=hP.mod.keep Hz13.out HN1.out
 obtain ⟨y0,y1,yl⟩:=cells2 hy
 have f0:=blk_free hy 0
 have f1:=blk_free hy 1
 have heV:=hP.mod.keep Hz23.out HN2.out
 obtain ⟨e0,e1,el⟩:=cells2 heV
 have hle0:=Hs0.out;have hle1:=blk_lt Hz13.out
 have HFin:=Lib.hid (fun V' (hm : Mod [w0.heap.size] w3 V') => OwnPost.side (own_Q _ _ _ _) hP (by omega) HN1.out Hb03.out (by omega) hm)
 clear hP hy hle0 hle1 heV
 go_wp2
 refine bodyPost_ret (v:=.tuple #[.agg #[.int .i64 0,.int .i64 0],.int .i64 7]) (by unfold results;try go_simp) rfl ?_
 refine ⟨rfl,HFin.out _ ?_⟩
 repeat (refine Mod.setCell ?_ (.inl (by simp)) _)
 exact Mod.refl _ _
set_option maxRecDepth 20000 in
set_option maxHeartbeats 4000000 in
theorem qdo_killno (h : RepQ q sl L B w F) (hO : ZOk sl L B) (K a0 a1 a2 a3 a4 a5 a6 a7 s g ts tg k n : Int) (hl3 : liveB sl s g = false) :
  Calls Tryz.prog 15 #[.pointer (some ⟨q,0,none⟩),.agg #[.int .i64 2,.int .i64 K,.int .i64 a0,.int .i64 a1,.int .i64 a2,.int .i64 a3,.int .i64 a4,.int .i64 a5,.int .i64 a6,.int .i64 a7,.int .i64 s,.int .i64 g,.int .i64 ts,.int .i64 tg,.int .i64 k,.int .i64 n]] w (QRet q (sl) (L) (B) F w (.tuple #[.agg #[.int .i64 0,.int .i64 0],.int .i64 7])):=by
 obtain ⟨w0,hw0,hb0,hz0,hs0⟩:=box1 w (.cells #[.int .i64 2,.int .i64 K,.int .i64 a0,.int .i64 a1,.int .i64 a2,.int .i64 a3,.int .i64 a4,.int .i64 a5,.int .i64 a6,.int .i64 a7,.int .i64 s,.int .i64 g,.int .i64 ts,.int .i64 tg,.int .i64 k,.int .i64 n] 52)
 obtain ⟨w1,hw1,hb1,hz1,hs1⟩:=box1 w0 (.cells #[.int .i64 0,.int .i64 0] 41)
 obtain ⟨w2,hw2,hb2,hz2,hs2⟩:=box1 w1 (.cells #[.int .i64 0,.int .i64 0] 41)
 have hb01:=hb0.trans (hb1.mono hb0.size)
 have hb02:=hb01.trans (hb2.mono hb01.size)
 have hz02:=(Mod.ofBelow hb2).keep ((Mod.ofBelow hb1).keep hz0 (by simp)) (by simp)
 have hz12:=(Mod.ofBelow hb2).keep hz1 (by simp)
 have hN0 : w.heap.size ∉ F:=fun e => by have:=h.lt _ e;omega
 have hN1 : w0.heap.size ∉ F:=fun e => by have:=h.lt _ e;omega
 have hN2 : w1.heap.size ∉ F:=fun e => by have:=h.lt _ e;omega
 have h2:=h.below hb02
 obtain ⟨o0,o1,o2,o3,o4,o5,o6,o7,o8,o9,o10,o11,o12,o13,o14,o15,ol⟩:=cells16 hz02
 obtain ⟨H,H2,Hb02,Hz02,Hz12,Hz2,HN0,HN1,HN2,Hs0,Hs1,Hs2,Hw2,HO⟩:=hid14 h h2 hb02 hz02 hz12 hz2 hN0 hN1 hN2 hs0 hs1 hs2 hw2 hO
 clear h h2 hb02 hz02 hz12 hz2 hN0 hN1 hN2 hs0 hs1 hs2 hw2 hO
 clear hb0 hb1 hb2 hz0 hz1 hb01
 have HAt3:=Lib.hid (atI_dead HO.out.w hl3)
 have Hl3:=Lib.hid hl3
 clear hl3
 go_enter Tryz.func15,Tryz.ntmps15
 go_wp2_with (first | (refine wpList_store_new rfl 41 (.tmp 6) (.tmp 9) rfl w1 (ints [0,0]) [.int .i64 0,.int .i64 0] 41 rfl rfl rfl (by kernel_rfl) (handleC_one (0,0)) ?_;rw [show ([.int .i64 0,.int .i64 0] : List Value).toArray = #[.int .i64 0,.int .i64 0] from rfl,Hw2.out]) | fail)
 clear hw0 hw1
 refine (q_at H2.out HO.out.w s g).mono ?_
 rintro e w3 ⟨rfl,hb3⟩
 rw [HAt3.out]
 have hb03:=Hb02.out.trans (hb3.mono Hb02.out.size)
 have h3:=H2.out.below hb3
 have hz03:=(Mod.ofBelow hb3).keep Hz02.out (by simp)
 have hz13:=(Mod.ofBelow hb3).keep Hz12.out (by simp)
 have hz23:=(Mod.ofBelow hb3).keep Hz2.out (by simp)
 clear o0 o1 o2 o3 o4 o5 o6 o7 o8 o9 o10 o11 o12 o13 o14 o15 ol
 obtain ⟨o0,o1,o2,o3,o4,o5,o6,o7,o8,o9,o10,o11,o12,o13,o14,o15,ol⟩:=cells16 hz03
 obtain ⟨Hb03,H3,Hz03,Hz13,Hz23⟩:=hid5 hb03 h3 hz03 hz13 hz23
 clear hb03 h3 hz03 hz13 hz23
 clear hb3
 have hP:=OwnPost.ofBelow (own_Q _ _ _ _) H3.out (Below.refl _ _)
 have hy:=hP.mod.keep Hz13.out HN1.out
 obtain ⟨y0,y1,yl⟩:=cells2 hy
 have f0:=blk_free hy 0
 have f1:=blk_free hy 1
 have heV:=hP.mod.keep Hz23.out HN2.out
 obtain ⟨e0,e1,el⟩:=cells2 heV
 have hle0:=Hs0.out;have hle1:=blk_lt Hz13.out
 have HFin:=Lib.hid (fun V' (hm : Mod [w0.heap.size] w3 V') => OwnPost.side (own_Q _ _ _ _) hP (by omega) HN1.out Hb03.out (by omega) hm)
 clear hP hy hle0 hle1 heV
 go_wp2
 refine bodyPost_ret (v:=.tuple #[.agg #[.int .i64 0,.int .i64 0],.int .i64 7]) (by unfold results;try go_simp) rfl ?_
 refine ⟨rfl,HFin.out _ ?_⟩
 repeat (refine Mod.setCell ?_ (.inl (by simp)) _)
 exact Mod.refl _ _
set_option maxRecDepth 20000 in
set_option maxHeartbeats 4000000 in
theorem qdo_adopt (h : RepQ q sl L B w F) (hO : ZOk sl L B) (K a0 a1 a2 a3 a4 a5 a6 a7 s g ts tg k n : Int) (hl3 : liveB sl s g = true) (hl4 : liveB sl ts tg = true) :
  Calls Tryz.prog 15 #[.pointer (some ⟨q,0,none⟩),.agg #[.int .i64 5,.int .i64 K,.int .i64 a0,.int .i64 a1,.int .i64 a2,.int .i64 a3,.int .i64 a4,.int .i64 a5,.int .i64 a6,.int .i64 a7,.int .i64 s,.int .i64 g,.int .i64 ts,.int .i64 tg,.int .i64 k,.int .i64 n]] w (QRet q (sl) (L) (adoB B (s,g) (ts,tg)) F w (.tuple #[.agg #[.int .i64 0,.int .i64 0],.int .i64 (adoE B (s,g) (ts,tg))])):=by
 obtain ⟨w0,hw0,hb0,hz0,hs0⟩:=box1 w (.cells #[.int .i64 5,.int .i64 K,.int .i64 a0,.int .i64 a1,.int .i64 a2,.int .i64 a3,.int .i64 a4,.int .i64 a5,.int .i64 a6,.int .i64 a7,.int .i64 s,.int .i64 g,.int .i64 ts,.int .i64 tg,.int .i64 k,.int .i64 n] 52)
 obtain ⟨w1,hw1,hb1,hz1,hs1⟩:=box1 w0 (.cells #[.int .i64 0,.int .i64 0] 41)
 obtain ⟨w2,hw2,hb2,hz2,hs2⟩:=box1 w1 (.cells #[.int .i64 0,.int .i64 0] 41)
 have hb01:=hb0.trans (hb1.mono hb0.size)
 have hb02:=hb01.trans (hb2.mono hb01.size)
 have hz02:=(Mod.ofBelow hb2).keep ((Mod.ofBelow hb1).keep hz0 (by simp)) (by simp)
 have hz12:=(Mod.ofBelow hb2).keep hz1 (by simp)
 have hN0 : w.heap.size ∉ F:=fun e => by have:=h.lt _ e;omega
 have hN1 : w0.heap.size ∉ F:=fun e => by have:=h.lt _ e;omega
 have hN2 : w1.heap.size ∉ F:=fun e => by have:=h.lt _ e;omega
 have h2:=h.below hb02
 obtain ⟨o0,o1,o2,o3,o4,o5,o6,o7,o8,o9,o10,o11,o12,o13,o14,o15,ol⟩:=cells16 hz02
 obtain ⟨H,H2,Hb02,Hz02,Hz12,Hz2,HN0,HN1,HN2,Hs0,Hs1,Hs2,Hw2,HO⟩:=hid14 h h2 hb02 hz02 hz12 hz2 hN0 hN1 hN2 hs0 hs1 hs2 hw2 hO
 clear h h2 hb02 hz02 hz12 hz2 hN0 hN1 hN2 hs0 hs1 hs2 hw2 hO
 clear hb0 hb1 hb2 hz0 hz1 hb01
 obtain ⟨i3,hAt3⟩:=atI_live HO.out.w (s:=s) (g:=g) hl3
 have hlt3 : decide ((i3 : Int) < 0) = false:=by simp
 obtain ⟨HAt3,Hl3⟩:=hid2 hAt3 hl3
 clear hAt3 hl3
 obtain ⟨i4,hAt4⟩:=atI_live HO.out.w (s:=ts) (g:=tg) hl4
 have hlt4 : decide ((i4 : Int) < 0) = false:=by simp
 obtain ⟨HAt4,Hl4⟩:=hid2 hAt4 hl4
 clear hAt4 hl4
 go_enter Tryz.func15,Tryz.ntmps15
 go_wp2_with (first | (refine wpList_store_new rfl 41 (.tmp 6) (.tmp 9) rfl w1 (ints [0,0]) [.int .i64 0,.int .i64 0] 41 rfl rfl rfl (by kernel_rfl) (handleC_one (0,0)) ?_;rw [show ([.int .i64 0,.int .i64 0] : List Value).toArray = #[.int .i64 0,.int .i64 0] from rfl,Hw2.out]) | fail)
 clear hw0 hw1
 refine (q_at H2.out HO.out.w s g).mono ?_
 rintro e w3 ⟨rfl,hb3⟩
 rw [HAt3.out]
 have hb03:=Hb02.out.trans (hb3.mono Hb02.out.size)
 have h3:=H2.out.below hb3
 have hz03:=(Mod.ofBelow hb3).keep Hz02.out (by simp)
 have hz13:=(Mod.ofBelow hb3).keep Hz12.out (by simp)
 have hz23:=(Mod.ofBelow hb3).keep Hz2.out (by simp)
 clear o0 o1 o2 o3 o4 o5 o6 o7 o8 o9 o10 o11 o12 o13 o14 o15 ol
 obtain ⟨o0,o1,o2,o3,o4,o5,o6,o7,o8,o9,o10,o11,o12,o13,o14,o15,ol⟩:=cells16 hz03
 obtain ⟨Hb03,H3,Hz03,Hz13,Hz23⟩:=hid5 hb03 h3 hz03 hz13 hz23
 clear hb03 h3 hz03 hz13 hz23
 clear hb3
 go_wp2_with fail
 refine (q_at H3.out HO.out.w ts tg).mono ?_
 rintro e w4 ⟨rfl,hb4⟩
 rw [HAt4.out]
 have hb04:=Hb03.out.trans (hb4.mono Hb03.out.size)
 have h4:=H3.out.below hb4
 have hz04:=(Mod.ofBelow hb4).keep Hz03.out (by simp)
 have hz14:=(Mod.ofBelow hb4).keep Hz13.out (by simp)
 have hz24:=(Mod.ofBelow hb4).keep Hz23.out (by simp)
 clear o0 o1 o2 o3 o4 o5 o6 o7 o8 o9 o10 o11 o12 o13 o14 o15 ol
 obtain ⟨o0,o1,o2,o3,o4,o5,o6,o7,o8,o9,o10,o11,o12,o13,o14,o15,ol⟩:=cells16 hz04
 obtain ⟨Hb04,H4,Hz04,Hz14,Hz24⟩:=hid5 hb04 h4 hz04 hz14 hz24
 clear hb04 h4 hz04 hz14 hz24
 clear hb4
 go_wp2_with fail
 clear o0 o1 o2 o3 o4 o5 o6 o7 o8 o9 o10 o11 o12 o13 o14 o15 ol
 refine wp_planK [] 7 [1] [some 67,some 68,some 69,some 70,some 71,some 72,some 73,none,some 5] [[],[],[],[2],[],[4],[1,2,3,4,5],[0,1,2,3,4,5,6],[0,1,2,3,4,5,6,7]] [0,1,2,3,4,5,6] (fun Lf σ W => ITurn 6 w4 F (RepQ q sl L (adoB B (s,g) (ts,tg))) Lf σ W) mixed rfl (by kernel_rfl) (by decide) (by decide) (by decide) (ITurn.start below_drew) rfl ?_
 iterate 7 apply Exists.intro
 refine ⟨rfl,?_,?_⟩
 ·simp only [tS,List.take_zero,AllFrom.cons_eq,AllFrom.nil_eq,OpGoalK]
  refine ⟨?_,?_,?_,?_,?_,?_,?_,trivial⟩
  all_goals (intro L' σ V h1 h2 h3 hI hp;have HA1:=Lib.hid h1;have HA2:=Lib.hid h2;have HA3:=Lib.hid h3;clear h1 h2 h3;(try simp only [gZ,gS,preK_cons,preK_nil] at hp);(try simp only [List.not_mem_nil,false_or,and_true] at hp);(first | (have hq : True:=hp;clear hq hp) | skip);have HI:=Lib.hid hI;clear hI)
  all_goals (
   have hk:=HI.out.k
   have hoV:=hk.keep Hz04.out HN0.out
   have heV:=hk.keep Hz24.out HN2.out
   have o0:=blk_cell hoV 0
   have o1:=blk_cell hoV 1
   have o2:=blk_cell hoV 2
   have o3:=blk_cell hoV 3
   have o4:=blk_cell hoV 4
   have o5:=blk_cell hoV 5
   have o6:=blk_cell hoV 6
   have o7:=blk_cell hoV 7
   have o8:=blk_cell hoV 8
   have o9:=blk_cell hoV 9
   have o10:=blk_cell hoV 10
   have o11:=blk_cell hoV 11
   have o12:=blk_cell hoV 12
   have o13:=blk_cell hoV 13
   have o14:=blk_cell hoV 14
   have o15:=blk_cell hoV 15
   simp only [eA,eZ,eS] at o0 o1 o2 o3 o4 o5 o6 o7 o8 o9 o10 o11 o12 o13 o14 o15
   have ol:=blk_lt hoV
   have e0:=blk_cell heV 0
   have e1:=blk_cell heV 1
   simp only [eA,eZ,eS] at e0 e1
   have el:=blk_lt heV
   (try (have hb:=HI.out.s0 (by first | exact HA3.out 6 (by decide) | exact HA1.out);have HRV:=Lib.hid (H4.out.below hb);clear hb))
   clear hk hoV heV)
  iterate 6 · (go_simp;exact ⟨.inr rfl,HI.out.read (by decide) _⟩)
  ·(go_simp;refine (q_adopt HRV.out HO.out.f HO.out.len s g ts tg).mono ?_;rintro e V2 ⟨rfl,hp2⟩;exact ⟨_,rfl,.inr rfl,HI.out.turn HA1.out hp2 _⟩)
 ·intro L' σ V h1 hI hp
  have hP:=hI.s1 (h1 6 (by decide))
  clear h1 hI
  simp only [preK_cons,preK_nil,gZ,gS] at hp;simp only [List.not_mem_nil,false_or,and_true] at hp
  have hy:=hP.mod.keep Hz14.out HN1.out
  obtain ⟨y0,y1,yl⟩:=cells2 hy
  have f0:=blk_free hy 0
  have f1:=blk_free hy 1
  have hle0:=Hs0.out;have hle1:=blk_lt Hz14.out
  have HFin:=Lib.hid (fun V' (hm : Mod [w0.heap.size] V V') => OwnPost.side (own_Q _ _ _ _) hP (by omega) HN1.out Hb04.out (by omega) hm)
  clear hP hy hle0 hle1
  simp only [dS,List.drop_zero]
  go_simp
  clear hp
  go_wp2
  refine ⟨rfl,?_⟩
  go_wp2
  refine bodyPost_ret (v:=.tuple #[.agg #[.int .i64 0,.int .i64 0],.int .i64 (adoE B (s,g) (ts,tg))]) (by unfold results;try go_simp) rfl ?_
  refine ⟨rfl,HFin.out _ ?_⟩
  repeat (refine Mod.setCell ?_ (.inl (by simp)) _)
  exact Mod.refl _ _
set_option maxRecDepth 20000 in
set_option maxHeartbeats 4000000 in
theorem qdo_loosen (h : RepQ q sl L B w F) (hO : ZOk sl L B) (K a0 a1 a2 a3 a4 a5 a6 a7 s g ts tg k n : Int) (hl3 : liveB sl s g = true) :
  Calls Tryz.prog 15 #[.pointer (some ⟨q,0,none⟩),.agg #[.int .i64 6,.int .i64 K,.int .i64 a0,.int .i64 a1,.int .i64 a2,.int .i64 a3,.int .i64 a4,.int .i64 a5,.int .i64 a6,.int .i64 a7,.int .i64 s,.int .i64 g,.int .i64 ts,.int .i64 tg,.int .i64 k,.int .i64 n]] w (QRet q (sl) (L) (outB B (s,g)) F w (.tuple #[.agg #[.int .i64 0,.int .i64 0],.int .i64 (looE (parB B (s,g)))])):=by
 obtain ⟨w0,hw0,hb0,hz0,hs0⟩:=box1 w (.cells #[.int .i64 6,.int .i64 K,.int .i64 a0,.int .i64 a1,.int .i64 a2,.int .i64 a3,.int .i64 a4,.int .i64 a5,.int .i64 a6,.int .i64 a7,.int .i64 s,.int .i64 g,.int .i64 ts,.int .i64 tg,.int .i64 k,.int .i64 n] 52)
 obtain ⟨w1,hw1,hb1,hz1,hs1⟩:=box1 w0 (.cells #[.int .i64 0,.int .i64 0] 41)
 obtain ⟨w2,hw2,hb2,hz2,hs2⟩:=box1 w1 (.cells #[.int .i64 0,.int .i64 0] 41)
 have hb01:=hb0.trans (hb1.mono hb0.size)
 have hb02:=hb01.trans (hb2.mono hb01.size)
 have hz02:=(Mod.ofBelow hb2).keep ((Mod.ofBelow hb1).keep hz0 (by simp)) (by simp)
 have hz12:=(Mod.ofBelow hb2).keep hz1 (by simp)
 have hN0 : w.heap.size ∉ F:=fun e => by have:=h.lt _ e;omega
 have hN1 : w0.heap.size ∉ F:=fun e => by have:=h.lt _ e;omega
 have hN2 : w1.heap.size ∉ F:=fun e => by have:=h.lt _ e;omega
 have h2:=h.below hb02
 obtain ⟨o0,o1,o2,o3,o4,o5,o6,o7,o8,o9,o10,o11,o12,o13,o14,o15,ol⟩:=cells16 hz02
 obtain ⟨H,H2,Hb02,Hz02,Hz12,Hz2,HN0,HN1,HN2,Hs0,Hs1,Hs2,Hw2,HO⟩:=hid14 h h2 hb02 hz02 hz12 hz2 hN0 hN1 hN2 hs0 hs1 hs2 hw2 hO
 clear h h2 hb02 hz02 hz12 hz2 hN0 hN1 hN2 hs0 hs1 hs2 hw2 hO
 clear hb0 hb1 hb2 hz0 hz1 hb01
 obtain ⟨i3,hAt3⟩:=atI_live HO.out.w (s:=s) (g:=g) hl3
 have hlt3 : decide ((i3 : Int) < 0) = false:=by simp
 obtain ⟨HAt3,Hl3⟩:=hid2 hAt3 hl3
 clear hAt3 hl3
 go_enter Tryz.func15,Tryz.ntmps15
 go_wp2_with (first | (refine wpList_store_new rfl 41 (.tmp 6) (.tmp 9) rfl w1 (ints [0,0]) [.int .i64 0,.int .i64 0] 41 rfl rfl rfl (by kernel_rfl) (handleC_one (0,0)) ?_;rw [show ([.int .i64 0,.int .i64 0] : List Value).toArray = #[.int .i64 0,.int .i64 0] from rfl,Hw2.out]) | fail)
 clear hw0 hw1
 refine (q_at H2.out HO.out.w s g).mono ?_
 rintro e w3 ⟨rfl,hb3⟩
 rw [HAt3.out]
 have hb03:=Hb02.out.trans (hb3.mono Hb02.out.size)
 have h3:=H2.out.below hb3
 have hz03:=(Mod.ofBelow hb3).keep Hz02.out (by simp)
 have hz13:=(Mod.ofBelow hb3).keep Hz12.out (by simp)
 have hz23:=(Mod.ofBelow hb3).keep Hz2.out (by simp)
 clear o0 o1 o2 o3 o4 o5 o6 o7 o8 o9 o10 o11 o12 o13 o14 o15 ol
 obtain ⟨o0,o1,o2,o3,o4,o5,o6,o7,o8,o9,o10,o11,o12,o13,o14,o15,ol⟩:=cells16 hz03
 obtain ⟨Hb03,H3,Hz03,Hz13,Hz23⟩:=hid5 hb03 h3 hz03 hz13 hz23
 clear hb03 h3 hz03 hz13 hz23
 clear hb3
 go_wp2_with fail
 clear o0 o1 o2 o3 o4 o5 o6 o7 o8 o9 o10 o11 o12 o13 o14 o15 ol
 refine wp_planK [] 5 [1] [some 76,some 77,some 78,some 79,some 80,none,some 5] [[],[],[],[2],[1,2,3],[0,1,2,3,4],[0,1,2,3,4,5]] [0,1,2,3,4] (fun Lf σ W => ITurn 4 w3 F (RepQ q sl L (outB B (s,g))) Lf σ W) mixed rfl (by kernel_rfl) (by decide) (by decide) (by decide) (ITurn.start below_drew) rfl ?_
 iterate 5 apply Exists.intro
 refine ⟨rfl,?_,?_⟩
 ·simp only [tS,List.take_zero,AllFrom.cons_eq,AllFrom.nil_eq,OpGoalK]
  refine ⟨?_,?_,?_,?_,?_,trivial⟩
  all_goals (intro L' σ V h1 h2 h3 hI hp;have HA1:=Lib.hid h1;have HA2:=Lib.hid h2;have HA3:=Lib.hid h3;clear h1 h2 h3;(try simp only [gZ,gS,preK_cons,preK_nil] at hp);(try simp only [List.not_mem_nil,false_or,and_true] at hp);(first | (have hq : True:=hp;clear hq hp) | skip);have HI:=Lib.hid hI;clear hI)
  all_goals (
   have hk:=HI.out.k
   have hoV:=hk.keep Hz03.out HN0.out
   have heV:=hk.keep Hz23.out HN2.out
   have o0:=blk_cell hoV 0
   have o1:=blk_cell hoV 1
   have o2:=blk_cell hoV 2
   have o3:=blk_cell hoV 3
   have o4:=blk_cell hoV 4
   have o5:=blk_cell hoV 5
   have o6:=blk_cell hoV 6
   have o7:=blk_cell hoV 7
   have o8:=blk_cell hoV 8
   have o9:=blk_cell hoV 9
   have o10:=blk_cell hoV 10
   have o11:=blk_cell hoV 11
   have o12:=blk_cell hoV 12
   have o13:=blk_cell hoV 13
   have o14:=blk_cell hoV 14
   have o15:=blk_cell hoV 15
   simp only [eA,eZ,eS] at o0 o1 o2 o3 o4 o5 o6 o7 o8 o9 o10 o11 o12 o13 o14 o15
   have ol:=blk_lt hoV
   have e0:=blk_cell heV 0
   have e1:=blk_cell heV 1
   simp only [eA,eZ,eS] at e0 e1
   have el:=blk_lt heV
   (try (have hb:=HI.out.s0 (by first | exact HA3.out 4 (by decide) | exact HA1.out);have HRV:=Lib.hid (H3.out.below hb);clear hb))
   clear hk hoV heV)
  iterate 4 · (go_simp;exact ⟨.inr rfl,HI.out.read (by decide) _⟩)
  ·(go_simp;refine (q_loosen HRV.out HO.out.len s g).mono ?_;rintro e V2 ⟨rfl,hp2⟩;exact ⟨_,rfl,.inr rfl,HI.out.turn HA1.out hp2 _⟩)
 ·intro L' σ V h1 hI hp
  have hP:=hI.s1 (h1 4 (by decide))
  clear h1 hI
  simp only [preK_cons,preK_nil,gZ,gS] at hp;simp only [List.not_mem_nil,false_or,and_true] at hp
  have hy:=hP.mod.keep Hz13.out HN1.out
  obtain ⟨y0,y1,yl⟩:=cells2 hy
  have f0:=blk_free hy 0
  have f1:=blk_free hy 1
  have hle0:=Hs0.out;have hle1:=blk_lt Hz13.out
  have HFin:=Lib.hid (fun V' (hm : Mod [w0.heap.size] V V') => OwnPost.side (own_Q _ _ _ _) hP (by omega) HN1.out Hb03.out (by omega) hm)
  clear hP hy hle0 hle1
  simp only [dS,List.drop_zero]
  go_simp
  clear hp
  go_wp2
  refine ⟨rfl,?_⟩
  go_wp2
  refine bodyPost_ret (v:=.tuple #[.agg #[.int .i64 0,.int .i64 0],.int .i64 (looE (parB B (s,g)))]) (by unfold results;try go_simp) rfl ?_
  refine ⟨rfl,HFin.out _ ?_⟩
  repeat (refine Mod.setCell ?_ (.inl (by simp)) _)
  exact Mod.refl _ _
end
end Go.Proofs.YtehjfmjibiafdaaGreat
