import Derived.Test.YtfdillpofciicaaGreatDoorTopSavedJ23
set_option linter.unusedVariables false
set_option linter.unusedSimpArgs false
/- A part of the proof that TopSaved returns true. -/
namespace Go.Proofs.YtfdillpofciicaaGreatDoor
open Go Go.RowKit
attribute [local go_sem] AllFrom.cons_eq AllFrom.nil_eq putF_nil putF_cons wantedL_none wantedL_some OpGoalT OpGoalV OpGoalQ OpGoalA OpGoalK YieldsR preF_nil preF_cons
theorem OwnPost.side {A : World → List Nat → Prop} (hA : Own A) {F : List Nat} {w w2 V V' : World} (h : OwnPost A F w2 V) {c : Nat} (hc : c < w2.heap.size) (hn : c ∉ F) (hw : Below w.heap.size w w2) (hcw : w.heap.size ≤ c) (hm : Mod [c] V V') : OwnPost A F w V':=by
 obtain ⟨F',h1,h2⟩:=h
 have hn' : c ∉ F':=fun e => by
  rcases h2.new c e with e | e
  ·exact hn e
  ·omega
 refine ⟨F',hA.mod h1 hm (fun y hy e => by simp at e;subst e;exact hn' hy),?_,fun y hy => ?_⟩
 ·refine (((Mod.ofBelow hw).mono (G:=F) (by simp)).trans h2.mod (fun x hx => .inl hx)).trans hm (fun x hx => by simp at hx;subst hx;exact .inr hcw)
 ·rcases h2.new y hy with e | e
  ·exact .inl e
  ·exact .inr (Nat.le_trans hw.size e)
theorem lies_new {w : World} {T : TypeId} {xs : List Value} {n : Nat} (hn : n = w.heap.size) : Lies (w.alloc (.cells xs.toArray T)) (w.alloc (.cells xs.toArray T)).heap.size (some ⟨n,0,none⟩) xs:=by
 intro j u hu
 refine ⟨_,rfl,by subst hn;simp,?_⟩
 exact new_rec hn (by simp) j u hu
section
variable {z p f : Nat} {sl sl' : Sl} {L L' : List Rw} {B B' : List Bd} {w w' : World} {F G : List Nat}
set_option maxRecDepth 20000 in
set_option maxHeartbeats 4000000 in
theorem vdo_spawn (h : RepV z p f sl L B w F) (K a0 a1 a2 a3 a4 a5 a6 a7 s g ts tg k n : Int) :
  Calls Tryz.prog 15 #[.pointer (some ⟨z,0,none⟩),.agg #[.int .i64 1,.int .i64 K,.int .i64 a0,.int .i64 a1,.int .i64 a2,.int .i64 a3,.int .i64 a4,.int .i64 a5,.int .i64 a6,.int .i64 a7,.int .i64 s,.int .i64 g,.int .i64 ts,.int .i64 tg,.int .i64 k,.int .i64 n]] w (VRet z p f (spawnS sl (K,a0,a1,a2,a3,a4,a5,a6,a7)) (spawnL sl L (K,a0,a1,a2,a3,a4,a5,a6,a7)) (B) F w (.tuple #[.agg #[.int .i64 (spawnH sl (K,a0,a1,a2,a3,a4,a5,a6,a7)).1,.int .i64 (spawnH sl (K,a0,a1,a2,a3,a4,a5,a6,a7)).2],.int .i64 (spawnE sl (K,a0,a1,a2,a3,a4,a5,a6,a7))])):=by
 obtain ⟨w0,hw0,hb0,hz0,hs0⟩:=box1 w (.cells #[.int .i64 1,.int .i64 K,.int .i64 a0,.int .i64 a1,.int .i64 a2,.int .i64 a3,.int .i64 a4,.int .i64 a5,.int .i64 a6,.int .i64 a7,.int .i64 s,.int .i64 g,.int .i64 ts,.int .i64 tg,.int .i64 k,.int .i64 n] 49)
 obtain ⟨w1,hw1,hb1,hz1,hs1⟩:=box1 w0 (.cells #[.int .i64 0,.int .i64 0] 47)
 obtain ⟨w2,hw2,hb2,hz2,hs2⟩:=box1 w1 (.cells #[.int .i64 0,.int .i64 0] 47)
 have hb01:=hb0.trans (hb1.mono hb0.size)
 have hb02:=hb01.trans (hb2.mono hb01.size)
 have hz02:=(Mod.ofBelow hb2).keep ((Mod.ofBelow hb1).keep hz0 (by simp)) (by simp)
 have hz12:=(Mod.ofBelow hb2).keep hz1 (by simp)
 have hN0 : w.heap.size ∉ F:=fun e => by have:=h.lt _ e;omega
 have hN1 : w0.heap.size ∉ F:=fun e => by have:=h.lt _ e;omega
 have hN2 : w1.heap.size ∉ F:=fun e => by have:=h.lt _ e;omega
 have h2:=h.below hb02
 obtain ⟨o0,o1,o2,o3,o4,o5,o6,o7,o8,o9,o10,o11,o12,o13,o14,o15,ol⟩:=cells16 hz02
 obtain ⟨H,H2,Hb02,Hz02,Hz12,Hz2,HN0,HN1,HN2,Hs0,Hs1,Hs2,Hw2⟩:=hid13 h h2 hb02 hz02 hz12 hz2 hN0 hN1 hN2 hs0 hs1 hs2 hw2
 clear h h2 hb02 hz02 hz12 hz2 hN0 hN1 hN2 hs0 hs1 hs2 hw2
 clear hb0 hb1 hb2 hz0 hz1 hb01
 go_enter Tryz.func15,Tryz.ntmps15
 go_wp2_with (first | (refine wpList_store_new rfl 47 (.tmp 6) (.tmp 9) rfl w1 (ints [0,0]) [.int .i64 0,.int .i64 0] 47 rfl rfl rfl (by kernel_rfl) (handleC_one (0,0)) ?_;rw [show ([.int .i64 0,.int .i64 0] : List Value).toArray = #[.int .i64 0,.int .i64 0] from rfl,Hw2.out]) | fail)
 clear hw0 hw1
 clear o0 o1 o2 o3 o4 o5 o6 o7 o8 o9 o10 o11 o12 o13 o14 o15 ol
 refine wp_planK [] 9 [0] [some 14,some 15,some 16,some 17,some 18,some 19,some 20,some 21,some 22,none,some 5] [[],[0],[0,1],[0,1,2],[],[4],[0,1,2,3,4,5],[0,1,2,3,4,5,6],[0,1,2,3,4,5,6],[0,1,2,3,4,5,6,7,8],[0,1,2,3,4,5,6,7,8,9]] [0,1,2,3,4,5,6,7,8] (fun Lf σ W => ITurn 6 w2 F (RepV z p f (spawnS sl (K,a0,a1,a2,a3,a4,a5,a6,a7)) (spawnL sl L (K,a0,a1,a2,a3,a4,a5,a6,a7)) B) Lf σ W) mixed rfl (by kernel_rfl) (by decide) (by decide) (by decide) (ITurn.start below_drew) rfl ?_
 iterate 9 apply Exists.intro
 refine ⟨rfl,?_,?_⟩
 ·simp only [tS,List.take_zero,AllFrom.cons_eq,AllFrom.nil_eq,OpGoalK]
  refine ⟨?_,?_,?_,?_,?_,?_,?_,?_,?_,trivial⟩
  all_goals (intro L' σ V h1 h2 h3 hI hp;have HA1:=Lib.hid h1;have HA2:=Lib.hid h2;have HA3:=Lib.hid h3;clear h1 h2 h3;(try simp only [gZ,gS,preK_cons,preK_nil] at hp);(try simp only [List.not_mem_nil,false_or,and_true] at hp);(first | (have hq : True:=hp;clear hq hp) | skip);have HI:=Lib.hid hI;clear hI)
  all_goals (
   have hk:=HI.out.k
   have hoV:=hk.keep Hz02.out HN0.out
   have heV:=hk.keep Hz2.out HN2.out
   have o0:=blk_cell hoV 0
   have o1:=blk_cell hoV 1
   have o2:=blk_cell hoV 2
   have o3:=blk_cell hoV 3
   have o4:=blk_cell hoV 4
   have o5:=blk_cell hoV 5
   have o6:=blk_cell hoV 6
   have o7:=blk_cell hoV 7
   have o8:=blk_cell hoV 8
   have o9:=blk_cell hoV 9
   have o10:=blk_cell hoV 10
   have o11:=blk_cell hoV 11
   have o12:=blk_cell hoV 12
   have o13:=blk_cell hoV 13
   have o14:=blk_cell hoV 14
   have o15:=blk_cell hoV 15
   simp only [eA,eZ,eS] at o0 o1 o2 o3 o4 o5 o6 o7 o8 o9 o10 o11 o12 o13 o14 o15
   have ol:=blk_lt hoV
   have e0:=blk_cell heV 0
   have e1:=blk_cell heV 1
   simp only [eA,eZ,eS] at e0 e1
   have el:=blk_lt heV
   (try (have hb:=HI.out.s0 (by first | exact HA3.out 6 (by decide) | exact HA1.out);have hRV:=H2.out.below hb;have hA:=hRV.cells;have hc0:=hA.1;have hc1:=hA.2.1;have hzl:=hA.2.2;have HRV:=Lib.hid hRV;clear hA hRV hb))
   clear hk hoV heV)
  iterate 6 · (go_simp;exact ⟨.inr rfl,HI.out.read (by decide) _⟩)
  ·(go_simp;refine (v_spawn HRV.out K a0 a1 a2 a3 a4 a5 a6 a7).mono ?_;rintro e V2 ⟨rfl,hp2⟩;exact ⟨_,rfl,.inr rfl,HI.out.turn HA1.out hp2 _⟩)
  iterate 2 · (go_simp;exact ⟨.inr rfl,HI.out.read (by decide) _⟩)
 ·intro L' σ V h1 hI hp
  have hP:=hI.s1 (h1 6 (by decide))
  clear h1 hI
  simp only [preK_cons,preK_nil,gZ,gS] at hp;simp only [List.not_mem_nil,false_or,and_true] at hp
  have hy:=hP.mod.keep Hz12.out HN1.out
  obtain ⟨y0,y1,yl⟩:=cells2 hy
  have f0:=blk_free hy 0
  have f1:=blk_free hy 1
  have hle0:=Hs0.out;have hle1:=Hs1.out;have hle2:=Hs2.out
  have HFin:=Lib.hid (fun V' (hm : Mod [w0.heap.size] V V') => OwnPost.side (own_V _ _ _ _ _ _) hP (by omega) HN1.out Hb02.out (by omega) hm)
  clear hP hy hle0 hle1 hle2
  simp only [dS,List.drop_zero]
  go_simp
  clear hp
  go_wp2
  refine ⟨rfl,?_⟩
  go_wp2
  refine bodyPost_ret (v:=.tuple #[.agg #[.int .i64 (spawnH sl (K,a0,a1,a2,a3,a4,a5,a6,a7)).1,.int .i64 (spawnH sl (K,a0,a1,a2,a3,a4,a5,a6,a7)).2],.int .i64 (spawnE sl (K,a0,a1,a2,a3,a4,a5,a6,a7))]) (by unfold results;try go_simp) rfl ?_
  refine ⟨rfl,HFin.out _ ?_⟩
  repeat (refine Mod.setCell ?_ (.inl (by simp)) _)
  exact Mod.refl _ _
set_option maxRecDepth 20000 in
set_option maxHeartbeats 4000000 in
theorem vdo_put (h : RepV z p f sl L B w F) (K a0 a1 a2 a3 a4 a5 a6 a7 s g ts tg k n : Int) :
  Calls Tryz.prog 15 #[.pointer (some ⟨z,0,none⟩),.agg #[.int .i64 3,.int .i64 K,.int .i64 a0,.int .i64 a1,.int .i64 a2,.int .i64 a3,.int .i64 a4,.int .i64 a5,.int .i64 a6,.int .i64 a7,.int .i64 s,.int .i64 g,.int .i64 ts,.int .i64 tg,.int .i64 k,.int .i64 n]] w (VRet z p f (sl) (putW L (s,g) k n) (B) F w (.tuple #[.agg #[.int .i64 0,.int .i64 0],.int .i64 (putE L (s,g) k n)])):=by
 obtain ⟨w0,hw0,hb0,hz0,hs0⟩:=box1 w (.cells #[.int .i64 3,.int .i64 K,.int .i64 a0,.int .i64 a1,.int .i64 a2,.int .i64 a3,.int .i64 a4,.int .i64 a5,.int .i64 a6,.int .i64 a7,.int .i64 s,.int .i64 g,.int .i64 ts,.int .i64 tg,.int .i64 k,.int .i64 n] 49)
 obtain ⟨w1,hw1,hb1,hz1,hs1⟩:=box1 w0 (.cells #[.int .i64 0,.int .i64 0] 47)
 obtain ⟨w2,hw2,hb2,hz2,hs2⟩:=box1 w1 (.cells #[.int .i64 0,.int .i64 0] 47)
 have hb01:=hb0.trans (hb1.mono hb0.size)
 have hb02:=hb01.trans (hb2.mono hb01.size)
 have hz02:=(Mod.ofBelow hb2).keep ((Mod.ofBelow hb1).keep hz0 (by simp)) (by simp)
 have hz12:=(Mod.ofBelow hb2).keep hz1 (by simp)
 have hN0 : w.heap.size ∉ F:=fun e => by have:=h.lt _ e;omega
 have hN1 : w0.heap.size ∉ F:=fun e => by have:=h.lt _ e;omega
 have hN2 : w1.heap.size ∉ F:=fun e => by have:=h.lt _ e;omega
 have h2:=h.below hb02
 obtain ⟨o0,o1,o2,o3,o4,o5,o6,o7,o8,o9,o10,o11,o12,o13,o14,o15,ol⟩:=cells16 hz02
 obtain ⟨H,H2,Hb02,Hz02,Hz12,Hz2,HN0,HN1,HN2,Hs0,Hs1,Hs2,Hw2⟩:=hid13 h h2 hb02 hz02 hz12 hz2 hN0 hN1 hN2 hs0 hs1 hs2 hw2
 clear h h2 hb02 hz02 hz12 hz2 hN0 hN1 hN2 hs0 hs1 hs2 hw2
 clear hb0 hb1 hb2 hz0 hz1 hb01
 go_enter Tryz.func15,Tryz.ntmps15
 go_wp2_with (first | (refine wpList_store_new rfl 47 (.tmp 6) (.tmp 9) rfl w1 (ints [0,0]) [.int .i64 0,.int .i64 0] 47 rfl rfl rfl (by kernel_rfl) (handleC_one (0,0)) ?_;rw [show ([.int .i64 0,.int .i64 0] : List Value).toArray = #[.int .i64 0,.int .i64 0] from rfl,Hw2.out]) | fail)
 clear hw0 hw1
 clear o0 o1 o2 o3 o4 o5 o6 o7 o8 o9 o10 o11 o12 o13 o14 o15 ol
 refine wp_planK [] 12 [1] [some 32,some 33,some 34,some 35,some 36,some 37,some 38,some 39,some 40,some 41,some 42,some 43,none,some 5] [[],[],[1],[1,2],[1,2,3],[],[5],[],[7],[],[9],[1,2,3,4,5,6,7,8,9,10],[0,1,2,3,4,5,6,7,8,9,10,11],[0,1,2,3,4,5,6,7,8,9,10,11,12]] [0,1,2,3,4,5,6,7,8,9,10,11] (fun Lf σ W => ITurn 11 w2 F (RepV z p f sl (putW L (s,g) k n) B) Lf σ W) mixed rfl (by kernel_rfl) (by decide) (by decide) (by decide) (ITurn.start below_drew) rfl ?_
 iterate 12 apply Exists.intro
 refine ⟨rfl,?_,?_⟩
 ·simp only [tS,List.take_zero,AllFrom.cons_eq,AllFrom.nil_eq,OpGoalK]
  refine ⟨?_,?_,?_,?_,?_,?_,?_,?_,?_,?_,?_,?_,trivial⟩
  all_goals (intro L' σ V h1 h2 h3 hI hp;have HA1:=Lib.hid h1;have HA2:=Lib.hid h2;have HA3:=Lib.hid h3;clear h1 h2 h3;(try simp only [gZ,gS,preK_cons,preK_nil] at hp);(try simp only [List.not_mem_nil,false_or,and_true] at hp);(first | (have hq : True:=hp;clear hq hp) | skip);have HI:=Lib.hid hI;clear hI)
  all_goals (
   have hk:=HI.out.k
   have hoV:=hk.keep Hz02.out HN0.out
   have heV:=hk.keep Hz2.out HN2.out
   have o0:=blk_cell hoV 0
   have o1:=blk_cell hoV 1
   have o2:=blk_cell hoV 2
   have o3:=blk_cell hoV 3
   have o4:=blk_cell hoV 4
   have o5:=blk_cell hoV 5
   have o6:=blk_cell hoV 6
   have o7:=blk_cell hoV 7
   have o8:=blk_cell hoV 8
   have o9:=blk_cell hoV 9
   have o10:=blk_cell hoV 10
   have o11:=blk_cell hoV 11
   have o12:=blk_cell hoV 12
   have o13:=blk_cell hoV 13
   have o14:=blk_cell hoV 14
   have o15:=blk_cell hoV 15
   simp only [eA,eZ,eS] at o0 o1 o2 o3 o4 o5 o6 o7 o8 o9 o10 o11 o12 o13 o14 o15
   have ol:=blk_lt hoV
   have e0:=blk_cell heV 0
   have e1:=blk_cell heV 1
   simp only [eA,eZ,eS] at e0 e1
   have el:=blk_lt heV
   (try (have hb:=HI.out.s0 (by first | exact HA3.out 11 (by decide) | exact HA1.out);have hRV:=H2.out.below hb;have hA:=hRV.cells;have hc0:=hA.1;have hc1:=hA.2.1;have hzl:=hA.2.2;have HRV:=Lib.hid hRV;clear hA hRV hb))
   clear hk hoV heV)
  iterate 11 · (go_simp;exact ⟨.inr rfl,HI.out.read (by decide) _⟩)
  ·(go_simp;refine (v_put HRV.out s g k n).mono ?_;rintro e V2 ⟨rfl,hp2⟩;exact ⟨_,rfl,.inr rfl,HI.out.turn HA1.out hp2 _⟩)
 ·intro L' σ V h1 hI hp
  have hP:=hI.s1 (h1 11 (by decide))
  clear h1 hI
  simp only [preK_cons,preK_nil,gZ,gS] at hp;simp only [List.not_mem_nil,false_or,and_true] at hp
  have hy:=hP.mod.keep Hz12.out HN1.out
  obtain ⟨y0,y1,yl⟩:=cells2 hy
  have f0:=blk_free hy 0
  have f1:=blk_free hy 1
  have hle0:=Hs0.out;have hle1:=Hs1.out;have hle2:=Hs2.out
  have HFin:=Lib.hid (fun V' (hm : Mod [w0.heap.size] V V') => OwnPost.side (own_V _ _ _ _ _ _) hP (by omega) HN1.out Hb02.out (by omega) hm)
  clear hP hy hle0 hle1 hle2
  simp only [dS,List.drop_zero]
  go_simp
  clear hp
  go_wp2
  refine ⟨rfl,?_⟩
  go_wp2
  refine bodyPost_ret (v:=.tuple #[.agg #[.int .i64 0,.int .i64 0],.int .i64 (putE L (s,g) k n)]) (by unfold results;try go_simp) rfl ?_
  refine ⟨rfl,HFin.out _ ?_⟩
  repeat (refine Mod.setCell ?_ (.inl (by simp)) _)
  exact Mod.refl _ _
set_option maxRecDepth 20000 in
set_option maxHeartbeats 4000000 in
theorem vdo_drop (h : RepV z p f sl L B w F) (K a0 a1 a2 a3 a4 a5 a6 a7 s g ts tg k n : Int) :
  Calls Tryz.prog 15 #[.pointer (some ⟨z,0,none⟩),.agg #[.int .i64 4,.int .i64 K,.int .i64 a0,.int .i64 a1,.int .i64 a2,.int .i64 a3,.int .i64 a4,.int .i64 a5,.int .i64 a6,.int .i64 a7,.int .i64 s,.int .i64 g,.int .i64 ts,.int .i64 tg,.int .i64 k,.int .i64 n]] w (VRet z p f (sl) (dropL L (s,g) k) (B) F w (.tuple #[.agg #[.int .i64 0,.int .i64 0],.int .i64 (dropE L (s,g) k)])):=by
 obtain ⟨w0,hw0,hb0,hz0,hs0⟩:=box1 w (.cells #[.int .i64 4,.int .i64 K,.int .i64 a0,.int .i64 a1,.int .i64 a2,.int .i64 a3,.int .i64 a4,.int .i64 a5,.int .i64 a6,.int .i64 a7,.int .i64 s,.int .i64 g,.int .i64 ts,.int .i64 tg,.int .i64 k,.int .i64 n] 49)
 obtain ⟨w1,hw1,hb1,hz1,hs1⟩:=box1 w0 (.cells #[.int .i64 0,.int .i64 0] 47)
 obtain ⟨w2,hw2,hb2,hz2,hs2⟩:=box1 w1 (.cells #[.int .i64 0,.int .i64 0] 47)
 have hb01:=hb0.trans (hb1.mono hb0.size)
 have hb02:=hb01.trans (hb2.mono hb01.size)
 have hz02:=(Mod.ofBelow hb2).keep ((Mod.ofBelow hb1).keep hz0 (by simp)) (by simp)
 have hz12:=(Mod.ofBelow hb2).keep hz1 (by simp)
 have hN0 : w.heap.size ∉ F:=fun e => by have:=h.lt _ e;omega
 have hN1 : w0.heap.size ∉ F:=fun e => by have:=h.lt _ e;omega
 have hN2 : w1.heap.size ∉ F:=fun e => by have:=h.lt _ e;omega
 have h2:=h.below hb02
 obtain ⟨o0,o1,o2,o3,o4,o5,o6,o7,o8,o9,o10,o11,o12,o13,o14,o15,ol⟩:=cells16 hz02
 obtain ⟨H,H2,Hb02,Hz02,Hz12,Hz2,HN0,HN1,HN2,Hs0,Hs1,Hs2,Hw2⟩:=hid13 h h2 hb02 hz02 hz12 hz2 hN0 hN1 hN2 hs0 hs1 hs2 hw2
 clear h h2 hb02 hz02 hz12 hz2 hN0 hN1 hN2 hs0 hs1 hs2 hw2
 clear hb0 hb1 hb2 hz0 hz1 hb01
 go_enter Tryz.func15,Tryz.ntmps15
 go_wp2_with (first | (refine wpList_store_new rfl 47 (.tmp 6) (.tmp 9) rfl w1 (ints [0,0]) [.int .i64 0,.int .i64 0] 47 rfl rfl rfl (by kernel_rfl) (handleC_one (0,0)) ?_;rw [show ([.int .i64 0,.int .i64 0] : List Value).toArray = #[.int .i64 0,.int .i64 0] from rfl,Hw2.out]) | fail)
 clear hw0 hw1
 clear o0 o1 o2 o3 o4 o5 o6 o7 o8 o9 o10 o11 o12 o13 o14 o15 ol
 refine wp_planK [] 10 [1] [some 46,some 47,some 48,some 49,some 50,some 51,some 52,some 53,some 54,some 55,none,some 5] [[],[],[1],[1,2],[1,2,3],[],[5],[],[7],[1,2,3,4,5,6,7,8],[0,1,2,3,4,5,6,7,8,9],[0,1,2,3,4,5,6,7,8,9,10]] [0,1,2,3,4,5,6,7,8,9] (fun Lf σ W => ITurn 9 w2 F (RepV z p f sl (dropL L (s,g) k) B) Lf σ W) mixed rfl (by kernel_rfl) (by decide) (by decide) (by decide) (ITurn.start below_drew) rfl ?_
 iterate 10 apply Exists.intro
 refine ⟨rfl,?_,?_⟩
 ·simp only [tS,List.take_zero,AllFrom.cons_eq,AllFrom.nil_eq,OpGoalK]
  refine ⟨?_,?_,?_,?_,?_,?_,?_,?_,?_,?_,trivial⟩
  all_goals (intro L' σ V h1 h2 h3 hI hp;have HA1:=Lib.hid h1;have HA2:=Lib.hid h2;have HA3:=Lib.hid h3;clear h1 h2 h3;(try simp only [gZ,gS,preK_cons,preK_nil] at hp);(try simp only [List.not_mem_nil,false_or,and_true] at hp);(first | (have hq : True:=hp;clear hq hp) | skip);have HI:=Lib.hid hI;clear hI)
  all_goals (
   have hk:=HI.out.k
   have hoV:=hk.keep Hz02.out HN0.out
   have heV:=hk.keep Hz2.out HN2.out
   have o0:=blk_cell hoV 0
   have o1:=blk_cell hoV 1
   have o2:=blk_cell hoV 2
   have o3:=blk_cell hoV 3
   have o4:=blk_cell hoV 4
   have o5:=blk_cell hoV 5
   have o6:=blk_cell hoV 6
   have o7:=blk_cell hoV 7
   have o8:=blk_cell hoV 8
   have o9:=blk_cell hoV 9
   have o10:=blk_cell hoV 10
   have o11:=blk_cell hoV 11
   have o12:=blk_cell hoV 12
   have o13:=blk_cell hoV 13
   have o14:=blk_cell hoV 14
   have o15:=blk_cell hoV 15
   simp only [eA,eZ,eS] at o0 o1 o2 o3 o4 o5 o6 o7 o8 o9 o10 o11 o12 o13 o14 o15
   have ol:=blk_lt hoV
   have e0:=blk_cell heV 0
   have e1:=blk_cell heV 1
   simp only [eA,eZ,eS] at e0 e1
   have el:=blk_lt heV
   (try (have hb:=HI.out.s0 (by first | exact HA3.out 9 (by decide) | exact HA1.out);have hRV:=H2.out.below hb;have hA:=hRV.cells;have hc0:=hA.1;have hc1:=hA.2.1;have hzl:=hA.2.2;have HRV:=Lib.hid hRV;clear hA hRV hb))
   clear hk hoV heV)
  iterate 9 · (go_simp;exact ⟨.inr rfl,HI.out.read (by decide) _⟩)
  ·(go_simp;refine (v_drop HRV.out s g k).mono ?_;rintro e V2 ⟨rfl,hp2⟩;exact ⟨_,rfl,.inr rfl,HI.out.turn HA1.out hp2 _⟩)
 ·intro L' σ V h1 hI hp
  have hP:=hI.s1 (h1 9 (by decide))
  clear h1 hI
  simp only [preK_cons,preK_nil,gZ,gS] at hp;simp only [List.not_mem_nil,false_or,and_true] at hp
  have hy:=hP.mod.keep Hz12.out HN1.out
  obtain ⟨y0,y1,yl⟩:=cells2 hy
  have f0:=blk_free hy 0
  have f1:=blk_free hy 1
  have hle0:=Hs0.out;have hle1:=Hs1.out;have hle2:=Hs2.out
  have HFin:=Lib.hid (fun V' (hm : Mod [w0.heap.size] V V') => OwnPost.side (own_V _ _ _ _ _ _) hP (by omega) HN1.out Hb02.out (by omega) hm)
  clear hP hy hle0 hle1 hle2
  simp only [dS,List.drop_zero]
  go_simp
  clear hp
  go_wp2
  refine ⟨rfl,?_⟩
  go_wp2
  refine bodyPost_ret (v:=.tuple #[.agg #[.int .i64 0,.int .i64 0],.int .i64 (dropE L (s,g) k)]) (by unfold results;try go_simp) rfl ?_
  refine ⟨rfl,HFin.out _ ?_⟩
  repeat (refine Mod.setCell ?_ (.inl (by simp)) _)
  exact Mod.refl _ _
set_option maxRecDepth 20000 in
set_option maxHeartbeats 4000000 in
theorem vdo_kill (h : RepV z p f sl L B w F) (K a0 a1 a2 a3 a4 a5 a6 a7 s g ts tg k n : Int) (hO : ZOk sl L B) (hlv : liveB sl s g = true) :
  Calls Tryz.prog 15 #[.pointer (some ⟨z,0,none⟩),.agg #[.int .i64 2,.int .i64 K,.int .i64 a0,.int .i64 a1,.int .i64 a2,.int .i64 a3,.int .i64 a4,.int .i64 a5,.int .i64 a6,.int .i64 a7,.int .i64 s,.int .i64 g,.int .i64 ts,.int .i64 tg,.int .i64 k,.int .i64 n]] w (VRet z p f ((killsZ (sl,L,B) (underB B (s,g) ++ [(s,g)])).1) ((killsZ (sl,L,B) (underB B (s,g) ++ [(s,g)])).2.1) ((killsZ (sl,L,B) (underB B (s,g) ++ [(s,g)])).2.2) F w (.tuple #[.agg #[.int .i64 0,.int .i64 0],.int .i64 0])):=by
 obtain ⟨w0,hw0,hb0,hz0,hs0⟩:=box1 w (.cells #[.int .i64 2,.int .i64 K,.int .i64 a0,.int .i64 a1,.int .i64 a2,.int .i64 a3,.int .i64 a4,.int .i64 a5,.int .i64 a6,.int .i64 a7,.int .i64 s,.int .i64 g,.int .i64 ts,.int .i64 tg,.int .i64 k,.int .i64 n] 49)
 obtain ⟨w1,hw1,hb1,hz1,hs1⟩:=box1 w0 (.cells #[.int .i64 0,.int .i64 0] 47)
 obtain ⟨w2,hw2,hb2,hz2,hs2⟩:=box1 w1 (.cells #[.int .i64 0,.int .i64 0] 47)
 have hb01:=hb0.trans (hb1.mono hb0.size)
 have hb02:=hb01.trans (hb2.mono hb01.size)
 have hz02:=(Mod.ofBelow hb2).keep ((Mod.ofBelow hb1).keep hz0 (by simp)) (by simp)
 have hz12:=(Mod.ofBelow hb2).keep hz1 (by simp)
 have hN0 : w.heap.size ∉ F:=fun e => by have:=h.lt _ e;omega
 have hN1 : w0.heap.size ∉ F:=fun e => by have:=h.lt _ e;omega
 have hN2 : w1.heap.size ∉ F:=fun e => by have:=h.lt _ e;omega
 have h2:=h.below hb02
 obtain ⟨o0,o1,o2,o3,o4,o5,o6,o7,o8,o9,o10,o11,o12,o13,o14,o15,ol⟩:=cells16 hz02
 obtain ⟨H,H2,Hb02,Hz02,Hz12,Hz2,HN0,HN1,HN2,Hs0,Hs1,Hs2,Hw2⟩:=hid13 h h2 hb02 hz02 hz12 hz2 hN0 hN1 hN2 hs0 hs1 hs2 hw2
 clear h h2 hb02 hz02 hz12 hz2 hN0 hN1 hN2 hs0 hs1 hs2 hw2
 clear hb0 hb1 hb2 hz0 hz1 hb01
 go_enter Tryz.func15,Tryz.ntmps15
 go_wp2_with (first | (refine wpList_store_new rfl 47 (.tmp 6) (.tmp 9) rfl w1 (ints [0,0]) [.int .i64 0,.int .i64 0] 47 rfl rfl rfl (by kernel_rfl) (handleC_one (0,0)) ?_;rw [show ([.int .i64 0,.int .i64 0] : List Value).toArray = #[.int .i64 0,.int .i64 0] from rfl,Hw2.out]) | fail)
 clear hw0 hw1
 obtain ⟨HOk,HLv⟩:=hid2 hO hlv
 clear hO hlv
 clear o0 o1 o2 o3 o4 o5 o6 o7 o8 o9 o10 o11 o12 o13 o14 o15 ol
 refine wp_planK [] 5 [1] [some 25,some 26,some 27,some 28,some 29,none,some 5] [[],[],[],[2],[1,2,3],[0,1,2,3,4],[0,1,2,3,4,5]] [0,1,2,3,4] (fun Lf σ W => ITurn 4 w2 F (RepV z p f ((killsZ (sl,L,B) (underB B (s,g) ++ [(s,g)])).1) ((killsZ (sl,L,B) (underB B (s,g) ++ [(s,g)])).2.1) ((killsZ (sl,L,B) (underB B (s,g) ++ [(s,g)])).2.2)) Lf σ W) mixed rfl (by kernel_rfl) (by decide) (by decide) (by decide) (ITurn.start below_drew) rfl ?_
 iterate 5 apply Exists.intro
 refine ⟨rfl,?_,?_⟩
 ·simp only [tS,List.take_zero,AllFrom.cons_eq,AllFrom.nil_eq,OpGoalK]
  refine ⟨?_,?_,?_,?_,?_,trivial⟩
  all_goals (intro L' σ V h1 h2 h3 hI hp;have HA1:=Lib.hid h1;have HA2:=Lib.hid h2;have HA3:=Lib.hid h3;clear h1 h2 h3;(try simp only [gZ,gS,preK_cons,preK_nil] at hp);(try simp only [List.not_mem_nil,false_or,and_true] at hp);(first | (have hq : True:=hp;clear hq hp) | skip);have HI:=Lib.hid hI;clear hI)
  all_goals (
   have hk:=HI.out.k
   have hoV:=hk.keep Hz02.out HN0.out
   have heV:=hk.keep Hz2.out HN2.out
   have o0:=blk_cell hoV 0
   have o1:=blk_cell hoV 1
   have o2:=blk_cell hoV 2
   have o3:=blk_cell hoV 3
   have o4:=blk_cell hoV 4
   have o5:=blk_cell hoV 5
   have o6:=blk_cell hoV 6
   have o7:=blk_cell hoV 7
   have o8:=blk_cell hoV 8
   have o9:=blk_cell hoV 9
   have o10:=blk_cell hoV 10
   have o11:=blk_cell hoV 11
   have o12:=blk_cell hoV 12
   have o13:=blk_cell hoV 13
   have o14:=blk_cell hoV 14
   have o15:=blk_cell hoV 15
   simp only [eA,eZ,eS] at o0 o1 o2 o3 o4 o5 o6 o7 o8 o9 o10 o11 o12 o13 o14 o15
   have ol:=blk_lt hoV
   have e0:=blk_cell heV 0
   have e1:=blk_cell heV 1
   simp only [eA,eZ,eS] at e0 e1
   have el:=blk_lt heV
   (try (have hb:=HI.out.s0 (by first | exact HA3.out 4 (by decide) | exact HA1.out);have hRV:=H2.out.below hb;have hA:=hRV.cells;have hc0:=hA.1;have hc1:=hA.2.1;have hzl:=hA.2.2;have HRV:=Lib.hid hRV;clear hA hRV hb))
   clear hk hoV heV)
  iterate 4 · (go_simp;exact ⟨.inr rfl,HI.out.read (by decide) _⟩)
  ·(go_simp;refine (vkill_any HRV.out HOk.out s g).mono ?_;rintro e V2 hh;obtain ⟨rfl,hp2⟩:=hh.resolve_left (fun e => by rw [HLv.out] at e;cases e.1) |>.2;exact ⟨_,rfl,.inr rfl,HI.out.turn HA1.out hp2 _⟩)
 ·intro L' σ V h1 hI hp
  have hP:=hI.s1 (h1 4 (by decide))
  clear h1 hI
  simp only [preK_cons,preK_nil,gZ,gS] at hp;simp only [List.not_mem_nil,false_or,and_true] at hp
  have hy:=hP.mod.keep Hz12.out HN1.out
  obtain ⟨y0,y1,yl⟩:=cells2 hy
  have f0:=blk_free hy 0
  have f1:=blk_free hy 1
  have hle0:=Hs0.out;have hle1:=Hs1.out;have hle2:=Hs2.out
  have HFin:=Lib.hid (fun V' (hm : Mod [w0.heap.size] V V') => OwnPost.side (own_V _ _ _ _ _ _) hP (by omega) HN1.out Hb02.out (by omega) hm)
  clear hP hy hle0 hle1 hle2
  simp only [dS,List.drop_zero]
  go_simp
  clear hp
  go_wp2
  refine ⟨rfl,?_⟩
  go_wp2
  refine bodyPost_ret (v:=.tuple #[.agg #[.int .i64 0,.int .i64 0],.int .i64 0]) (by unfold results;try go_simp) rfl ?_
  refine ⟨rfl,HFin.out _ ?_⟩
  repeat (refine Mod.setCell ?_ (.inl (by simp)) _)
  exact Mod.refl _ _
set_option maxRecDepth 20000 in
set_option maxHeartbeats 4000000 in
theorem vdo_killno (h : RepV z p f sl L B w F) (K a0 a1 a2 a3 a4 a5 a6 a7 s g ts tg k n : Int) (hO : ZOk sl L B) (hlv : liveB sl s g = false) :
  Calls Tryz.prog 15 #[.pointer (some ⟨z,0,none⟩),.agg #[.int .i64 2,.int .i64 K,.int .i64 a0,.int .i64 a1,.int .i64 a2,.int .i64 a3,.int .i64 a4,.int .i64 a5,.int .i64 a6,.int .i64 a7,.int .i64 s,.int .i64 g,.int .i64 ts,.int .i64 tg,.int .i64 k,.int .i64 n]] w (VRet z p f (sl) (L) (B) F w (.tuple #[.agg #[.int .i64 0,.int .i64 0],.int .i64 7])):=by
 obtain ⟨w0,hw0,hb0,hz0,hs0⟩:=box1 w (.cells #[.int .i64 2,.int .i64 K,.int .i64 a0,.int .i64 a1,.int .i64 a2,.int .i64 a3,.int .i64 a4,.int .i64 a5,.int .i64 a6,.int .i64 a7,.int .i64 s,.int .i64 g,.int .i64 ts,.int .i64 tg,.int .i64 k,.int .i64 n] 49)
 obtain ⟨w1,hw1,hb1,hz1,hs1⟩:=box1 w0 (.cells #[.int .i64 0,.int .i64 0] 47)
 obtain ⟨w2,hw2,hb2,hz2,hs2⟩:=box1 w1 (.cells #[.int .i64 0,.int .i64 0] 47)
 have hb01:=hb0.trans (hb1.mono hb0.size)
 have hb02:=hb01.trans (hb2.mono hb01.size)
 have hz02:=(Mod.ofBelow hb2).keep ((Mod.ofBelow hb1).keep hz0 (by simp)) (by simp)
 have hz12:=(Mod.ofBelow hb2).keep hz1 (by simp)
 have hN0 : w.heap.size ∉ F:=fun e => by have:=h.lt _ e;omega
 have hN1 : w0.heap.size ∉ F:=fun e => by have:=h.lt _ e;omega
 have hN2 : w1.heap.size ∉ F:=fun e => by have:=h.lt _ e;omega
 have h2:=h.below hb02
 obtain ⟨o0,o1,o2,o3,o4,o5,o6,o7,o8,o9,o10,o11,o12,o13,o14,o15,ol⟩:=cells16 hz02
 obtain ⟨H,H2,Hb02,Hz02,Hz12,Hz2,HN0,HN1,HN2,Hs0,Hs1,Hs2,Hw2⟩:=hid13 h h2 hb02 hz02 hz12 hz2 hN0 hN1 hN2 hs0 hs1 hs2 hw2
 clear h h2 hb02 hz02 hz12 hz2 hN0 hN1 hN2 hs0 hs1 hs2 hw2
 clear hb0 hb1 hb2 hz0 hz1 hb01
 go_enter Tryz.func15,Tryz.ntmps15
 go_wp2_with (first | (refine wpList_store_new rfl 47 (.tmp 6) (.tmp 9) rfl w1 (ints [0,0]) [.int .i64 0,.int .i64 0] 47 rfl rfl rfl (by kernel_rfl) (handleC_one (0,0)) ?_;rw [show ([.int .i64 0,.int .i64 0] : List Value).toArray = #[.int .i64 0,.int .i64 0] from rfl,Hw2.out]) | fail)
 clear hw0 hw1
 obtain ⟨HOk,HLv⟩:=hid2 hO hlv
 clear hO hlv
 clear o0 o1 o2 o3 o4 o5 o6 o7 o8 o9 o10 o11 o12 o13 o14 o15 ol
 refine wp_planK [] 5 [1] [some 25,some 26,some 27,some 28,some 29,none,some 5] [[],[],[],[2],[1,2,3],[0,1,2,3,4],[0,1,2,3,4,5]] [0,1,2,3,4] (fun Lf σ W => ITurn 4 w2 F (RepV z p f (sl) (L) (B)) Lf σ W) mixed rfl (by kernel_rfl) (by decide) (by decide) (by decide) (ITurn.start below_drew) rfl ?_
 iterate 5 apply Exists.intro
 refine ⟨rfl,?_,?_⟩
 ·simp only [tS,List.take_zero,AllFrom.cons_eq,AllFrom.nil_eq,OpGoalK]
  refine ⟨?_,?_,?_,?_,?_,trivial⟩
  all_goals (intro L' σ V h1 h2 h3 hI hp;have HA1:=Lib.hid h1;have HA2:=Lib.hid h2;have HA3:=Lib.hid h3;clear h1 h2 h3;(try simp only [gZ,gS,preK_cons,preK_nil] at hp);(try simp only [List.not_mem_nil,false_or,and_true] at hp);(first | (have hq : True:=hp;clear hq hp) | skip);have HI:=Lib.hid hI;clear hI)
  all_goals (
   have hk:=HI.out.k
   have hoV:=hk.keep Hz02.out HN0.out
   have heV:=hk.keep Hz2.out HN2.out
   have o0:=blk_cell hoV 0
   have o1:=blk_cell hoV 1
   have o2:=blk_cell hoV 2
   have o3:=blk_cell hoV 3
   have o4:=blk_cell hoV 4
   have o5:=blk_cell hoV 5
   have o6:=blk_cell hoV 6
   have o7:=blk_cell hoV 7
   have o8:=blk_cell hoV 8
   have o9:=blk_cell hoV 9
   have o10:=blk_cell hoV 10
   have o11:=blk_cell hoV 11
   have o12:=blk_cell hoV 12
   have o13:=blk_cell hoV 13
   have o14:=blk_cell hoV 14
   have o15:=blk_cell hoV 15
   simp only [eA,eZ,eS] at o0 o1 o2 o3 o4 o5 o6 o7 o8 o9 o10 o11 o12 o13 o14 o15
   have ol:=blk_lt hoV
   have e0:=blk_cell heV 0
   have e1:=blk_cell heV 1
   simp only [eA,eZ,eS] at e0 e1
   have el:=blk_lt heV
   (try (have hb:=HI.out.s0 (by first | exact HA3.out 4 (by decide) | exact HA1.out);have hRV:=H2.out.below hb;have hA:=hRV.cells;have hc0:=hA.1;have hc1:=hA.2.1;have hzl:=hA.2.2;have HRV:=Lib.hid hRV;clear hA hRV hb))
   clear hk hoV heV)
  iterate 4 · (go_simp;exact ⟨.inr rfl,HI.out.read (by decide) _⟩)
  ·(go_simp;refine (vkill_any HRV.out HOk.out s g).mono ?_;rintro e V2 hh;obtain ⟨rfl,hp2⟩:=hh.resolve_right (fun e => by rw [HLv.out] at e;cases e.1) |>.2;exact ⟨_,rfl,.inr rfl,HI.out.turn HA1.out hp2 _⟩)
 ·intro L' σ V h1 hI hp
  have hP:=hI.s1 (h1 4 (by decide))
  clear h1 hI
  simp only [preK_cons,preK_nil,gZ,gS] at hp;simp only [List.not_mem_nil,false_or,and_true] at hp
  have hy:=hP.mod.keep Hz12.out HN1.out
  obtain ⟨y0,y1,yl⟩:=cells2 hy
  have f0:=blk_free hy 0
  have f1:=blk_free hy 1
  have hle0:=Hs0.out;have hle1:=Hs1.out;have hle2:=Hs2.out
  have HFin:=Lib.hid (fun V' (hm : Mod [w0.heap.size] V V') => OwnPost.side (own_V _ _ _ _ _ _) hP (by omega) HN1.out Hb02.out (by omega) hm)
  clear hP hy hle0 hle1 hle2
  simp only [dS,List.drop_zero]
  go_simp
  clear hp
  go_wp2
  refine ⟨rfl,?_⟩
  go_wp2
  refine bodyPost_ret (v:=.tuple #[.agg #[.int .i64 0,.int .i64 0],.int .i64 7]) (by unfold results;try go_simp) rfl ?_
  refine ⟨rfl,HFin.out _ ?_⟩
  repeat (refine Mod.setCell ?_ (.inl (by simp)) _)
  exact Mod.refl _ _
set_option maxRecDepth 20000 in
set_option maxHeartbeats 4000000 in
theorem vdo_other (h : RepV z p f sl L B w F) (K a0 a1 a2 a3 a4 a5 a6 a7 s g ts tg k n : Int) (d : Int) (g1 : d ≠ 1) (g2 : d ≠ 2) (g3 : d ≠ 3) (g4 : d ≠ 4) (g5 : d ≠ 5) (g6 : d ≠ 6) :
  Calls Tryz.prog 15 #[.pointer (some ⟨z,0,none⟩),.agg #[.int .i64 d,.int .i64 K,.int .i64 a0,.int .i64 a1,.int .i64 a2,.int .i64 a3,.int .i64 a4,.int .i64 a5,.int .i64 a6,.int .i64 a7,.int .i64 s,.int .i64 g,.int .i64 ts,.int .i64 tg,.int .i64 k,.int .i64 n]] w (VRet z p f (sl) (L) (B) F w (.tuple #[.agg #[.int .i64 0,.int .i64 0],.int .i64 1])):=by
 obtain ⟨w0,hw0,hb0,hz0,hs0⟩:=box1 w (.cells #[.int .i64 d,.int .i64 K,.int .i64 a0,.int .i64 a1,.int .i64 a2,.int .i64 a3,.int .i64 a4,.int .i64 a5,.int .i64 a6,.int .i64 a7,.int .i64 s,.int .i64 g,.int .i64 ts,.int .i64 tg,.int .i64 k,.int .i64 n] 49)
 obtain ⟨w1,hw1,hb1,hz1,hs1⟩:=box1 w0 (.cells #[.int .i64 0,.int .i64 0] 47)
 obtain ⟨w2,hw2,hb2,hz2,hs2⟩:=box1 w1 (.cells #[.int .i64 0,.int .i64 0] 47)
 have hb01:=hb0.trans (hb1.mono hb0.size)
 have hb02:=hb01.trans (hb2.mono hb01.size)
 have hz02:=(Mod.ofBelow hb2).keep ((Mod.ofBelow hb1).keep hz0 (by simp)) (by simp)
 have hz12:=(Mod.ofBelow hb2).keep hz1 (by simp)
 have hN0 : w.heap.size ∉ F:=fun e => by have:=h.lt _ e;omega
 have hN1 : w0.heap.size ∉ F:=fun e => by have:=h.lt _ e;omega
 have hN2 : w1.heap.size ∉ F:=fun e => by have:=h.lt _ e;omega
 have h2:=h.below hb02
 obtain ⟨o0,o1,o2,o3,o4,o5,o6,o7,o8,o9,o10,o11,o12,o13,o14,o15,ol⟩:=cells16 hz02
 obtain ⟨H,H2,Hb02,Hz02,Hz12,Hz2,HN0,HN1,HN2,Hs0,Hs1,Hs2,Hw2⟩:=hid13 h h2 hb02 hz02 hz12 hz2 hN0 hN1 hN2 hs0 hs1 hs2 hw2
 clear h h2 hb02 hz02 hz12 hz2 hN0 hN1 hN2 hs0 hs1 hs2 hw2
 clear hb0 hb1 hb2 hz0 hz1 hb01
 have e1 : (d == 1) = false:=by simpa using g1
 have e2 : (d == 2) = false:=by simpa using g2
 have e3 : (d == 3) = false:=by simpa using g3
 have e4 : (d == 4) = false:=by simpa using g4
 have e5 : (d == 5) = false:=by simpa using g5
 have e6 : (d == 6) = false:=by simpa using g6
 have hy:=Hz12.out
 obtain ⟨y0,y1,yl⟩:=cells2 hy
 have f0:=blk_free hy 0
 have f1:=blk_free hy 1
 have hz2:=Hz2.out
 obtain ⟨e0,e1,el⟩:=cells2 hz2
 have hle0:=Hs0.out;have hle1:=Hs1.out;have hle2:=Hs2.out
 have HFin:=Lib.hid (fun V' (hm : Mod [w0.heap.size] w2 V') => OwnPost.side (own_V _ _ _ _ _ _) (OwnPost.ofBelow (own_V _ _ _ _ _ _) H2.out (Below.refl _ _)) (by omega) HN1.out Hb02.out (by omega) hm)
 clear g1 g2 g3 g4 g5 g6 hle0 hle1 hle2 hy hz2
 go_enter Tryz.func15,Tryz.ntmps15
 go_wp2_with (first | (refine wpList_store_new rfl 47 (.tmp 6) (.tmp 9) rfl w1 (ints [0,0]) [.int .i64 0,.int .i64 0] 47 rfl rfl rfl (by kernel_rfl) (handleC_one (0,0)) ?_;rw [show ([.int .i64 0,.int .i64 0] : List Value).toArray = #[.int .i64 0,.int .i64 0] from rfl,Hw2.out]) | fail)
 clear hw0 hw1
 refine bodyPost_ret (v:=.tuple #[.agg #[.int .i64 0,.int .i64 0],.int .i64 1]) (by unfold results;try go_simp) rfl ?_
 refine ⟨rfl,HFin.out _ ?_⟩
 repeat (refine Mod.setCell ?_ (.inl (by simp)) _)
 exact Mod.refl _ _
set_option maxRecDepth 20000 in
set_option maxHeartbeats 4000000 in
theorem vdo_adopt (h : RepV z p f sl L B w F) (K a0 a1 a2 a3 a4 a5 a6 a7 s g ts tg k n : Int) (hc : HdR (s,g)) (hpr : HdR (ts,tg)) (hlv : liveZ sl [(s,g),(ts,tg)] = true) :
  Calls Tryz.prog 15 #[.pointer (some ⟨z,0,none⟩),.agg #[.int .i64 5,.int .i64 K,.int .i64 a0,.int .i64 a1,.int .i64 a2,.int .i64 a3,.int .i64 a4,.int .i64 a5,.int .i64 a6,.int .i64 a7,.int .i64 s,.int .i64 g,.int .i64 ts,.int .i64 tg,.int .i64 k,.int .i64 n]] w (VRet z p f (sl) (L) (adoB B (s,g) (ts,tg)) F w (.tuple #[.agg #[.int .i64 0,.int .i64 0],.int .i64 (adoE B (s,g) (ts,tg))])):=by
 obtain ⟨w0,hw0,hb0,hz0,hs0⟩:=box1 w (.cells #[.int .i64 5,.int .i64 K,.int .i64 a0,.int .i64 a1,.int .i64 a2,.int .i64 a3,.int .i64 a4,.int .i64 a5,.int .i64 a6,.int .i64 a7,.int .i64 s,.int .i64 g,.int .i64 ts,.int .i64 tg,.int .i64 k,.int .i64 n] 49)
 obtain ⟨w1,hw1,hb1,hz1,hs1⟩:=box1 w0 (.cells #[.int .i64 0,.int .i64 0] 47)
 obtain ⟨w2,hw2,hb2,hz2,hs2⟩:=box1 w1 (.cells #[.int .i64 0,.int .i64 0] 47)
 have hb01:=hb0.trans (hb1.mono hb0.size)
 have hb02:=hb01.trans (hb2.mono hb01.size)
 have hz02:=(Mod.ofBelow hb2).keep ((Mod.ofBelow hb1).keep hz0 (by simp)) (by simp)
 have hz12:=(Mod.ofBelow hb2).keep hz1 (by simp)
 have hN0 : w.heap.size ∉ F:=fun e => by have:=h.lt _ e;omega
 have hN1 : w0.heap.size ∉ F:=fun e => by have:=h.lt _ e;omega
 have hN2 : w1.heap.size ∉ F:=fun e => by have:=h.lt _ e;omega
 have h2:=h.below hb02
 obtain ⟨o0,o1,o2,o3,o4,o5,o6,o7,o8,o9,o10,o11,o12,o13,o14,o15,ol⟩:=cells16 hz02
 obtain ⟨H,H2,Hb02,Hz02,Hz12,Hz2,HN0,HN1,HN2,Hs0,Hs1,Hs2,Hw2⟩:=hid13 h h2 hb02 hz02 hz12 hz2 hN0 hN1 hN2 hs0 hs1 hs2 hw2
 clear h h2 hb02 hz02 hz12 hz2 hN0 hN1 hN2 hs0 hs1 hs2 hw2
 clear hb0 hb1 hb2 hz0 hz1 hb01
 obtain ⟨w3,hw3,hb3,hz3,hs3⟩:=box1 w2 (.cells #[.int .i64 s,.int .i64 g,.int .i64 ts,.int .i64 tg] 47)
 have h3:=H2.out.below hb3
 have hL : Lies w3 w3.heap.size (some ⟨w2.heap.size,0,none⟩) (([(s,g),(ts,tg)] : List Hd).flatMap handleC):=by rw [← hw3];exact lies_new rfl
 have HLv:=Lib.hid (vlive_any h3 _ 2 [(s,g),(ts,tg)] (by simp) hL)
 have hz03:=(Mod.ofBelow hb3).keep Hz02.out (by simp)
 have hz13:=(Mod.ofBelow hb3).keep Hz12.out (by simp)
 have hz23:=(Mod.ofBelow hb3).keep Hz2.out (by simp)
 have hb03:=Hb02.out.trans (hb3.mono Hb02.out.size)
 obtain ⟨H3,HLV,Hw3,Hz03,Hz13,Hz23,Hb03⟩:=hid7 h3 hlv hw3 hz03 hz13 hz23 hb03
 clear h3 hlv hw3 hz03 hz13 hz23 hb03
 clear hb3 hz3 hs3 hL
 go_enter Tryz.func15,Tryz.ntmps15
 go_wp2_with (first | (refine wpList_store_new rfl 47 (.tmp 6) (.tmp 9) rfl w1 (ints [0,0]) [.int .i64 0,.int .i64 0] 47 rfl rfl rfl (by kernel_rfl) (handleC_one (0,0)) ?_;rw [show ([.int .i64 0,.int .i64 0] : List Value).toArray = #[.int .i64 0,.int .i64 0] from rfl,Hw2.out]) | fail)
 clear hw0 hw1
 rw [Hw3.out]
 refine HLv.out.mono ?_
 rintro e w4 ⟨rfl,hb4⟩
 rw [liveE_ok HLV.out]
 have hb04:=Hb03.out.trans (hb4.mono Hb03.out.size)
 have h4:=H3.out.below hb4
 have hz04:=(Mod.ofBelow hb4).keep Hz03.out (by simp)
 have hz14:=(Mod.ofBelow hb4).keep Hz13.out (by simp)
 have hz24:=(Mod.ofBelow hb4).keep Hz23.out (by simp)
 obtain ⟨Hb04,H4,Hz04,Hz14,Hz24⟩:=hid5 hb04 h4 hz04 hz14 hz24
 clear hb04 h4 hz04 hz14 hz24
 clear hb4
 clear o0 o1 o2 o3 o4 o5 o6 o7 o8 o9 o10 o11 o12 o13 o14 o15 ol
 go_wp2_with fail
 refine wp_planK [] 9 [0] [some 67,some 68,some 69,some 70,some 71,some 72,some 73,some 74,some 75,some 7] [[],[0],[0,1],[0,1,2],[],[4],[],[6],[0,1,2,3,4,5,6,7],[0,1,2,3,4,5,6,7,8]] [0,1,2,3,4,5,6,7,8] (fun Lf σ W => ITurn 8 w4 F (RepV z p f sl L (adoB B (s,g) (ts,tg))) Lf σ W) mixed rfl (by kernel_rfl) (by decide) (by decide) (by decide) (ITurn.start below_drew) rfl ?_
 iterate 9 apply Exists.intro
 refine ⟨rfl,?_,?_⟩
 ·simp only [tS,List.take_zero,AllFrom.cons_eq,AllFrom.nil_eq,OpGoalK]
  refine ⟨?_,?_,?_,?_,?_,?_,?_,?_,?_,trivial⟩
  all_goals (intro L' σ V h1 h2 h3 hI hp;have HA1:=Lib.hid h1;have HA2:=Lib.hid h2;have HA3:=Lib.hid h3;clear h1 h2 h3;(try simp only [gZ,gS,preK_cons,preK_nil] at hp);(try simp only [List.not_mem_nil,false_or,and_true] at hp);(first | (have hq : True:=hp;clear hq hp) | skip);have HI:=Lib.hid hI;clear hI)
  all_goals (
   have hk:=HI.out.k
   have hoV:=hk.keep Hz04.out HN0.out
   have heV:=hk.keep Hz24.out HN2.out
   have o0:=blk_cell hoV 0
   have o1:=blk_cell hoV 1
   have o2:=blk_cell hoV 2
   have o3:=blk_cell hoV 3
   have o4:=blk_cell hoV 4
   have o5:=blk_cell hoV 5
   have o6:=blk_cell hoV 6
   have o7:=blk_cell hoV 7
   have o8:=blk_cell hoV 8
   have o9:=blk_cell hoV 9
   have o10:=blk_cell hoV 10
   have o11:=blk_cell hoV 11
   have o12:=blk_cell hoV 12
   have o13:=blk_cell hoV 13
   have o14:=blk_cell hoV 14
   have o15:=blk_cell hoV 15
   simp only [eA,eZ,eS] at o0 o1 o2 o3 o4 o5 o6 o7 o8 o9 o10 o11 o12 o13 o14 o15
   have ol:=blk_lt hoV
   have e0:=blk_cell heV 0
   have e1:=blk_cell heV 1
   simp only [eA,eZ,eS] at e0 e1
   have el:=blk_lt heV
   (try (have hb:=HI.out.s0 (by first | exact HA3.out 8 (by decide) | exact HA1.out);have hRV:=H4.out.below hb;have hA:=hRV.cells;have hc0:=hA.1;have hc1:=hA.2.1;have hzl:=hA.2.2;have HRV:=Lib.hid hRV;clear hA hRV hb))
   clear hk hoV heV)
  iterate 8 · (go_simp;exact ⟨.inr rfl,HI.out.read (by decide) _⟩)
  ·(go_simp;refine (v_adopt HRV.out s g ts tg hc hpr).mono ?_;rintro e V2 ⟨rfl,hp2⟩;exact ⟨_,rfl,.inr rfl,HI.out.turn HA1.out hp2 _⟩)
 ·intro L' σ V h1 hI hp
  have hP:=hI.s1 (h1 8 (by decide))
  clear h1 hI
  simp only [preK_cons,preK_nil,gZ,gS] at hp;simp only [List.not_mem_nil,false_or,and_true] at hp
  have hy:=hP.mod.keep Hz14.out HN1.out
  have heV:=hP.mod.keep Hz24.out HN2.out
  obtain ⟨y0,y1,yl⟩:=cells2 hy
  obtain ⟨e0,e1,el⟩:=cells2 heV
  have f0:=blk_free hy 0
  have f1:=blk_free hy 1
  have hle0:=Hs0.out;have hle1:=blk_lt Hz14.out
  have HFin:=Lib.hid (fun V' (hm : Mod [w0.heap.size] V V') => OwnPost.side (own_V _ _ _ _ _ _) hP (by omega) HN1.out Hb04.out (by omega) hm)
  clear hP hy heV hle0 hle1
  simp only [dS,List.drop_zero]
  go_simp
  clear hp
  go_wp2
  refine ⟨rfl,?_⟩
  go_wp2
  refine bodyPost_ret (v:=.tuple #[.agg #[.int .i64 0,.int .i64 0],.int .i64 (adoE B (s,g) (ts,tg))]) (by unfold results;try go_simp) rfl ?_
  refine ⟨rfl,HFin.out _ ?_⟩
  repeat (refine Mod.setCell ?_ (.inl (by simp)) _)
  exact Mod.refl _ _
set_option maxRecDepth 20000 in
set_option maxHeartbeats 4000000 in
theorem vdo_adoptno (h : RepV z p f sl L B w F) (K a0 a1 a2 a3 a4 a5 a6 a7 s g ts tg k n : Int) (hlv : liveZ sl [(s,g),(ts,tg)] = false) :
  Calls Tryz.prog 15 #[.pointer (some ⟨z,0,none⟩),.agg #[.int .i64 5,.int .i64 K,.int .i64 a0,.int .i64 a1,.int .i64 a2,.int .i64 a3,.int .i64 a4,.int .i64 a5,.int .i64 a6,.int .i64 a7,.int .i64 s,.int .i64 g,.int .i64 ts,.int .i64 tg,.int .i64 k,.int .i64 n]] w (VRet z p f (sl) (L) (B) F w (.tuple #[.agg #[.int .i64 0,.int .i64 0],.int .i64 7])):=by
 obtain ⟨w0,hw0,hb0,hz0,hs0⟩:=box1 w (.cells #[.int .i64 5,.int .i64 K,.int .i64 a0,.int .i64 a1,.int .i64 a2,.int .i64 a3,.int .i64 a4,.int .i64 a5,.int .i64 a6,.int .i64 a7,.int .i64 s,.int .i64 g,.int .i64 ts,.int .i64 tg,.int .i64 k,.int .i64 n] 49)
 obtain ⟨w1,hw1,hb1,hz1,hs1⟩:=box1 w0 (.cells #[.int .i64 0,.int .i64 0] 47)
 obtain ⟨w2,hw2,hb2,hz2,hs2⟩:=box1 w1 (.cells #[.int .i64 0,.int .i64 0] 47)
 have hb01:=hb0.trans (hb1.mono hb0.size)
 have hb02:=hb01.trans (hb2.mono hb01.size)
 have hz02:=(Mod.ofBelow hb2).keep ((Mod.ofBelow hb1).keep hz0 (by simp)) (by simp)
 have hz12:=(Mod.ofBelow hb2).keep hz1 (by simp)
 have hN0 : w.heap.size ∉ F:=fun e => by have:=h.lt _ e;omega
 have hN1 : w0.heap.size ∉ F:=fun e => by have:=h.lt _ e;omega
 have hN2 : w1.heap.size ∉ F:=fun e => by have:=h.lt _ e;omega
 have h2:=h.below hb02
 obtain ⟨o0,o1,o2,o3,o4,o5,o6,o7,o8,o9,o10,o11,o12,o13,o14,o15,ol⟩:=cells16 hz02
 obtain ⟨H,H2,Hb02,Hz02,Hz12,Hz2,HN0,HN1,HN2,Hs0,Hs1,Hs2,Hw2⟩:=hid13 h h2 hb02 hz02 hz12 hz2 hN0 hN1 hN2 hs0 hs1 hs2 hw2
 clear h h2 hb02 hz02 hz12 hz2 hN0 hN1 hN2 hs0 hs1 hs2 hw2
 clear hb0 hb1 hb2 hz0 hz1 hb01
 obtain ⟨w3,hw3,hb3,hz3,hs3⟩:=box1 w2 (.cells #[.int .i64 s,.int .i64 g,.int .i64 ts,.int .i64 tg] 47)
 have h3:=H2.out.below hb3
 have hL : Lies w3 w3.heap.size (some ⟨w2.heap.size,0,none⟩) (([(s,g),(ts,tg)] : List Hd).flatMap handleC):=by rw [← hw3];exact lies_new rfl
 have HLv:=Lib.hid (vlive_any h3 _ 2 [(s,g),(ts,tg)] (by simp) hL)
 have hz03:=(Mod.ofBelow hb3).keep Hz02.out (by simp)
 have hz13:=(Mod.ofBelow hb3).keep Hz12.out (by simp)
 have hz23:=(Mod.ofBelow hb3).keep Hz2.out (by simp)
 have hb03:=Hb02.out.trans (hb3.mono Hb02.out.size)
 obtain ⟨H3,HLV,Hw3,Hz03,Hz13,Hz23,Hb03⟩:=hid7 h3 hlv hw3 hz03 hz13 hz23 hb03
 clear h3 hlv hw3 hz03 hz13 hz23 hb03
 clear hb3 hz3 hs3 hL
 go_enter Tryz.func15,Tryz.ntmps15
 go_wp2_with (first | (refine wpList_store_new rfl 47 (.tmp 6) (.tmp 9) rfl w1 (ints [0,0]) [.int .i64 0,.int .i64 0] 47 rfl rfl rfl (by kernel_rfl) (handleC_one (0,0)) ?_;rw [show ([.int .i64 0,.int .i64 0] : List Value).toArray = #[.int .i64 0,.int .i64 0] from rfl,Hw2.out]) | fail)
 clear hw0 hw1
 rw [Hw3.out]
 refine HLv.out.mono ?_
 rintro e w4 ⟨rfl,hb4⟩
 rw [liveE_no HLV.out]
 have hb04:=Hb03.out.trans (hb4.mono Hb03.out.size)
 have h4:=H3.out.below hb4
 have hz04:=(Mod.ofBelow hb4).keep Hz03.out (by simp)
 have hz14:=(Mod.ofBelow hb4).keep Hz13.out (by simp)
 have hz24:=(Mod.ofBelow hb4).keep Hz23.out (by simp)
 obtain ⟨Hb04,H4,Hz04,Hz14,Hz24⟩:=hid5 hb04 h4 hz04 hz14 hz24
 clear hb04 h4 hz04 hz14 hz24
 clear hb4
 clear o0 o1 o2 o3 o4 o5 o6 o7 o8 o9 o10 o11 o12 o13 o14 o15 ol
 have hP:=OwnPost.ofBelow (own_V _ _ _ _ _ _) H4.out (Below.refl _ _)
 have hy:=hP.mod.keep Hz14.out HN1.out
 have heV:=hP.mod.keep Hz24.out HN2.out
 obtain ⟨y0,y1,yl⟩:=cells2 hy
 obtain ⟨e0,e1,el⟩:=cells2 heV
 have f0:=blk_free hy 0
 have f1:=blk_free hy 1
 have hle0:=Hs0.out;have hle1:=blk_lt Hz14.out
 have HFin:=Lib.hid (fun V' (hm : Mod [w0.heap.size] w4 V') => OwnPost.side (own_V _ _ _ _ _ _) hP (by omega) HN1.out Hb04.out (by omega) hm)
 clear hP hy heV hle0 hle1
 go_wp2
 refine bodyPost_ret (v:=.tuple #[.agg #[.int .i64 0,.int .i64 0],.int .i64 7]) (by unfold results;try go_simp) rfl ?_
 refine ⟨rfl,HFin.out _ ?_⟩
 repeat (refine Mod.setCell ?_ (.inl (by simp)) _)
 exact Mod.refl _ _
set_option maxRecDepth 20000 in
set_option maxHeartbeats 4000000 in
theorem vdo_loosen (h : RepV z p f sl L B w F) (K a0 a1 a2 a3 a4 a5 a6 a7 s g ts tg k n : Int) (hc : HdR (s,g)) (hlv : liveZ sl [(s,g)] = true) :
  Calls Tryz.prog 15 #[.pointer (some ⟨z,0,none⟩),.agg #[.int .i64 6,.int .i64 K,.int .i64 a0,.int .i64 a1,.int .i64 a2,.int .i64 a3,.int .i64 a4,.int .i64 a5,.int .i64 a6,.int .i64 a7,.int .i64 s,.int .i64 g,.int .i64 ts,.int .i64 tg,.int .i64 k,.int .i64 n]] w (VRet z p f (sl) (L) (outB B (s,g)) F w (.tuple #[.agg #[.int .i64 0,.int .i64 0],.int .i64 (looE (parB B (s,g)))])):=by
 obtain ⟨w0,hw0,hb0,hz0,hs0⟩:=box1 w (.cells #[.int .i64 6,.int .i64 K,.int .i64 a0,.int .i64 a1,.int .i64 a2,.int .i64 a3,.int .i64 a4,.int .i64 a5,.int .i64 a6,.int .i64 a7,.int .i64 s,.int .i64 g,.int .i64 ts,.int .i64 tg,.int .i64 k,.int .i64 n] 49)
 obtain ⟨w1,hw1,hb1,hz1,hs1⟩:=box1 w0 (.cells #[.int .i64 0,.int .i64 0] 47)
 obtain ⟨w2,hw2,hb2,hz2,hs2⟩:=box1 w1 (.cells #[.int .i64 0,.int .i64 0] 47)
 have hb01:=hb0.trans (hb1.mono hb0.size)
 have hb02:=hb01.trans (hb2.mono hb01.size)
 have hz02:=(Mod.ofBelow hb2).keep ((Mod.ofBelow hb1).keep hz0 (by simp)) (by simp)
 have hz12:=(Mod.ofBelow hb2).keep hz1 (by simp)
 have hN0 : w.heap.size ∉ F:=fun e => by have:=h.lt _ e;omega
 have hN1 : w0.heap.size ∉ F:=fun e => by have:=h.lt _ e;omega
 have hN2 : w1.heap.size ∉ F:=fun e => by have:=h.lt _ e;omega
 have h2:=h.below hb02
 obtain ⟨o0,o1,o2,o3,o4,o5,o6,o7,o8,o9,o10,o11,o12,o13,o14,o15,ol⟩:=cells16 hz02
 obtain ⟨H,H2,Hb02,Hz02,Hz12,Hz2,HN0,HN1,HN2,Hs0,Hs1,Hs2,Hw2⟩:=hid13 h h2 hb02 hz02 hz12 hz2 hN0 hN1 hN2 hs0 hs1 hs2 hw2
 clear h h2 hb02 hz02 hz12 hz2 hN0 hN1 hN2 hs0 hs1 hs2 hw2
 clear hb0 hb1 hb2 hz0 hz1 hb01
 obtain ⟨w3,hw3,hb3,hz3,hs3⟩:=box1 w2 (.cells #[.int .i64 s,.int .i64 g] 47)
 have h3:=H2.out.below hb3
 have hL : Lies w3 w3.heap.size (some ⟨w2.heap.size,0,none⟩) (([(s,g)] : List Hd).flatMap handleC):=by rw [← hw3];exact lies_new rfl
 have HLv:=Lib.hid (vlive_any h3 _ 1 [(s,g)] (by simp) hL)
 have hz03:=(Mod.ofBelow hb3).keep Hz02.out (by simp)
 have hz13:=(Mod.ofBelow hb3).keep Hz12.out (by simp)
 have hz23:=(Mod.ofBelow hb3).keep Hz2.out (by simp)
 have hb03:=Hb02.out.trans (hb3.mono Hb02.out.size)
 obtain ⟨H3,HLV,Hw3,Hz03,Hz13,Hz23,Hb03⟩:=hid7 h3 hlv hw3 hz03 hz13 hz23 hb03
 clear h3 hlv hw3 hz03 hz13 hz23 hb03
 clear hb3 hz3 hs3 hL
 go_enter Tryz.func15,Tryz.ntmps15
 go_wp2_with (first | (refine wpList_store_new rfl 47 (.tmp 6) (.tmp 9) rfl w1 (ints [0,0]) [.int .i64 0,.int .i64 0] 47 rfl rfl rfl (by kernel_rfl) (handleC_one (0,0)) ?_;rw [show ([.int .i64 0,.int .i64 0] : List Value).toArray = #[.int .i64 0,.int .i64 0] from rfl,Hw2.out]) | fail)
 clear hw0 hw1
 rw [Hw3.out]
 refine HLv.out.mono ?_
 rintro e w4 ⟨rfl,hb4⟩
 rw [liveE_ok HLV.out]
 have hb04:=Hb03.out.trans (hb4.mono Hb03.out.size)
 have h4:=H3.out.below hb4
 have hz04:=(Mod.ofBelow hb4).keep Hz03.out (by simp)
 have hz14:=(Mod.ofBelow hb4).keep Hz13.out (by simp)
 have hz24:=(Mod.ofBelow hb4).keep Hz23.out (by simp)
 obtain ⟨Hb04,H4,Hz04,Hz14,Hz24⟩:=hid5 hb04 h4 hz04 hz14 hz24
 clear hb04 h4 hz04 hz14 hz24
 clear hb4
 clear o0 o1 o2 o3 o4 o5 o6 o7 o8 o9 o10 o11 o12 o13 o14 o15 ol
 go_wp2_with fail
 refine wp_planK [] 7 [0] [some 87,some 88,some 89,some 90,some 91,some 92,some 93,some 8] [[],[0],[0,1],[0,1,2],[],[4],[0,1,2,3,4,5],[0,1,2,3,4,5,6]] [0,1,2,3,4,5,6] (fun Lf σ W => ITurn 6 w4 F (RepV z p f sl L (outB B (s,g))) Lf σ W) mixed rfl (by kernel_rfl) (by decide) (by decide) (by decide) (ITurn.start below_drew) rfl ?_
 iterate 7 apply Exists.intro
 refine ⟨rfl,?_,?_⟩
 ·simp only [tS,List.take_zero,AllFrom.cons_eq,AllFrom.nil_eq,OpGoalK]
  refine ⟨?_,?_,?_,?_,?_,?_,?_,trivial⟩
  all_goals (intro L' σ V h1 h2 h3 hI hp;have HA1:=Lib.hid h1;have HA2:=Lib.hid h2;have HA3:=Lib.hid h3;clear h1 h2 h3;(try simp only [gZ,gS,preK_cons,preK_nil] at hp);(try simp only [List.not_mem_nil,false_or,and_true] at hp);(first | (have hq : True:=hp;clear hq hp) | skip);have HI:=Lib.hid hI;clear hI)
  all_goals (
   have hk:=HI.out.k
   have hoV:=hk.keep Hz04.out HN0.out
   have heV:=hk.keep Hz24.out HN2.out
   have o0:=blk_cell hoV 0
   have o1:=blk_cell hoV 1
   have o2:=blk_cell hoV 2
   have o3:=blk_cell hoV 3
   have o4:=blk_cell hoV 4
   have o5:=blk_cell hoV 5
   have o6:=blk_cell hoV 6
   have o7:=blk_cell hoV 7
   have o8:=blk_cell hoV 8
   have o9:=blk_cell hoV 9
   have o10:=blk_cell hoV 10
   have o11:=blk_cell hoV 11
   have o12:=blk_cell hoV 12
   have o13:=blk_cell hoV 13
   have o14:=blk_cell hoV 14
   have o15:=blk_cell hoV 15
   simp only [eA,eZ,eS] at o0 o1 o2 o3 o4 o5 o6 o7 o8 o9 o10 o11 o12 o13 o14 o15
   have ol:=blk_lt hoV
   have e0:=blk_cell heV 0
   have e1:=blk_cell heV 1
   simp only [eA,eZ,eS] at e0 e1
   have el:=blk_lt heV
   (try (have hb:=HI.out.s0 (by first | exact HA3.out 6 (by decide) | exact HA1.out);have hRV:=H4.out.below hb;have hA:=hRV.cells;have hc0:=hA.1;have hc1:=hA.2.1;have hzl:=hA.2.2;have HRV:=Lib.hid hRV;clear hA hRV hb))
   clear hk hoV heV)
  iterate 6 · (go_simp;exact ⟨.inr rfl,HI.out.read (by decide) _⟩)
  ·(go_simp;refine (v_loosen HRV.out s g hc).mono ?_;rintro e V2 ⟨rfl,hp2⟩;exact ⟨_,rfl,.inr rfl,HI.out.turn HA1.out hp2 _⟩)
 ·intro L' σ V h1 hI hp
  have hP:=hI.s1 (h1 6 (by decide))
  clear h1 hI
  simp only [preK_cons,preK_nil,gZ,gS] at hp;simp only [List.not_mem_nil,false_or,and_true] at hp
  have hy:=hP.mod.keep Hz14.out HN1.out
  have heV:=hP.mod.keep Hz24.out HN2.out
  obtain ⟨y0,y1,yl⟩:=cells2 hy
  obtain ⟨e0,e1,el⟩:=cells2 heV
  have f0:=blk_free hy 0
  have f1:=blk_free hy 1
  have hle0:=Hs0.out;have hle1:=blk_lt Hz14.out
  have HFin:=Lib.hid (fun V' (hm : Mod [w0.heap.size] V V') => OwnPost.side (own_V _ _ _ _ _ _) hP (by omega) HN1.out Hb04.out (by omega) hm)
  clear hP hy heV hle0 hle1
  simp only [dS,List.drop_zero]
  go_simp
  clear hp
  go_wp2
  refine ⟨rfl,?_⟩
  go_wp2
  refine bodyPost_ret (v:=.tuple #[.agg #[.int .i64 0,.int .i64 0],.int .i64 (looE (parB B (s,g)))]) (by unfold results;try go_simp) rfl ?_
  refine ⟨rfl,HFin.out _ ?_⟩
  repeat (refine Mod.setCell ?_ (.inl (by simp)) _)
  exact Mod.refl _ _
set_option maxRecDepth 20000 in
set_option maxHeartbeats 4000000 in
theorem vdo_loosenno (h : RepV z p f sl L B w F) (K a0 a1 a2 a3 a4 a5 a6 a7 s g ts tg k n : Int) (hlv : liveZ sl [(s,g)] = false) :
  Calls Tryz.prog 15 #[.pointer (some ⟨z,0,none⟩),.agg #[.int .i64 6,.int .i64 K,.int .i64 a0,.int .i64 a1,.int .i64 a2,.int .i64 a3,.int .i64 a4,.int .i64 a5,.int .i64 a6,.int .i64 a7,.int .i64 s,.int .i64 g,.int .i64 ts,.int .i64 tg,.int .i64 k,.int .i64 n]] w (VRet z p f (sl) (L) (B) F w (.tuple #[.agg #[.int .i64 0,.int .i64 0],.int .i64 7])):=by
 obtain ⟨w0,hw0,hb0,hz0,hs0⟩:=box1 w (.cells #[.int .i64 6,.int .i64 K,.int .i64 a0,.int .i64 a1,.int .i64 a2,.int .i64 a3,.int .i64 a4,.int .i64 a5,.int .i64 a6,.int .i64 a7,.int .i64 s,.int .i64 g,.int .i64 ts,.int .i64 tg,.int .i64 k,.int .i64 n] 49)
 obtain ⟨w1,hw1,hb1,hz1,hs1⟩:=box1 w0 (.cells #[.int .i64 0,.int .i64 0] 47)
 obtain ⟨w2,hw2,hb2,hz2,hs2⟩:=box1 w1 (.cells #[.int .i64 0,.int .i64 0] 47)
 have hb01:=hb0.trans (hb1.mono hb0.size)
 have hb02:=hb01.trans (hb2.mono hb01.size)
 have hz02:=(Mod.ofBelow hb2).keep ((Mod.ofBelow hb1).keep hz0 (by simp)) (by simp)
 have hz12:=(Mod.ofBelow hb2).keep hz1 (by simp)
 have hN0 : w.heap.size ∉ F:=fun e => by have:=h.lt _ e;omega
 have hN1 : w0.heap.size ∉ F:=fun e => by have:=h.lt _ e;omega
 have hN2 : w1.heap.size ∉ F:=fun e => by have:=h.lt _ e;omega
 have h2:=h.below hb02
 obtain ⟨o0,o1,o2,o3,o4,o5,o6,o7,o8,o9,o10,o11,o12,o13,o14,o15,ol⟩:=cells16 hz02
 obtain ⟨H,H2,Hb02,Hz02,Hz12,Hz2,HN0,HN1,HN2,Hs0,Hs1,Hs2,Hw2⟩:=hid13 h h2 hb02 hz02 hz12 hz2 hN0 hN1 hN2 hs0 hs1 hs2 hw2
 clear h h2 hb02 hz02 hz12 hz2 hN0 hN1 hN2 hs0 hs1 hs2 hw2
 clear hb0 hb1 hb2 hz0 hz1 hb01
 obtain ⟨w3,hw3,hb3,hz3,hs3⟩:=box1 w2 (.cells #[.int .i64 s,.int .i64 g] 47)
 have h3:=H2.out.below hb3
 have hL : Lies w3 w3.heap.size (some ⟨w2.heap.size,0,none⟩) (([(s,g)] : List Hd).flatMap handleC):=by rw [← hw3];exact lies_new rfl
 have HLv:=Lib.hid (vlive_any h3 _ 1 [(s,g)] (by simp) hL)
 have hz03:=(Mod.ofBelow hb3).keep Hz02.out (by simp)
 have hz13:=(Mod.ofBelow hb3).keep Hz12.out (by simp)
 have hz23:=(Mod.ofBelow hb3).keep Hz2.out (by simp)
 have hb03:=Hb02.out.trans (hb3.mono Hb02.out.size)
 obtain ⟨H3,HLV,Hw3,Hz03,Hz13,Hz23,Hb03⟩:=hid7 h3 hlv hw3 hz03 hz13 hz23 hb03
 clear h3 hlv hw3 hz03 hz13 hz23 hb03
 clear hb3 hz3 hs3 hL
 go_enter Tryz.func15,Tryz.ntmps15
 go_wp2_with (first | (refine wpList_store_new rfl 47 (.tmp 6) (.tmp 9) rfl w1 (ints [0,0]) [.int .i64 0,.int .i64 0] 47 rfl rfl rfl (by kernel_rfl) (handleC_one (0,0)) ?_;rw [show ([.int .i64 0,.int .i64 0] : List Value).toArray = #[.int .i64 0,.int .i64 0] from rfl,Hw2.out]) | fail)
 clear hw0 hw1
 rw [Hw3.out]
 refine HLv.out.mono ?_
 rintro e w4 ⟨rfl,hb4⟩
 rw [liveE_no HLV.out]
 have hb04:=Hb03.out.trans (hb4.mono Hb03.out.size)
 have h4:=H3.out.below hb4
 have hz04:=(Mod.ofBelow hb4).keep Hz03.out (by simp)
 have hz14:=(Mod.ofBelow hb4).keep Hz13.out (by simp)
 have hz24:=(Mod.ofBelow hb4).keep Hz23.out (by simp)
 obtain ⟨Hb04,H4,Hz04,Hz14,Hz24⟩:=hid5 hb04 h4 hz04 hz14 hz24
 clear hb04 h4 hz04 hz14 hz24
 clear hb4
 clear o0 o1 o2 o3 o4 o5 o6 o7 o8 o9 o10 o11 o12 o13 o14 o15 ol
 have hP:=OwnPost.ofBelow (own_V _ _ _ _ _ _) H4.out (Below.refl _ _)
 have hy:=hP.mod.keep Hz14.out HN1.out
 have heV:=hP.mod.keep Hz24.out HN2.out
 obtain ⟨y0,y1,yl⟩:=cells2 hy
 obtain ⟨e0,e1,el⟩:=cells2 heV
 have f0:=blk_free hy 0
 have f1:=blk_free hy 1
 have hle0:=Hs0.out;have hle1:=blk_lt Hz14.out
 have HFin:=Lib.hid (fun V' (hm : Mod [w0.heap.size] w4 V') => OwnPost.side (own_V _ _ _ _ _ _) hP (by omega) HN1.out Hb04.out (by omega) hm)
 clear hP hy heV hle0 hle1
 go_wp2
 refine bodyPost_ret (v:=.tuple #[.agg #[.int .i64 0,.int .i64 0],.int .i64 7]) (by unfold results;try go_simp) rfl ?_
 refine ⟨rfl,HFin.out _ ?_⟩
 repeat (refine Mod.setCell ?_ (.inl (by simp)) _)
 exact Mod.refl _ _
end
end Go.Proofs.YtfdillpofciicaaGreatDoor
