import Derived.Test.YtoheblfpjinmnaaGreatDoorTextParsesJ11
set_option linter.unusedVariables false
set_option linter.unusedSimpArgs false
/- A part of the proof that TextParses returns true. -/
namespace Go.Proofs.YtoheblfpjinmnaaGreatDoor
open Go Go.RowKit
def WPost (p ps mt mp : Nat) (sl : Sl) (tb : List (Nat × Nat)) (rw : Nat → List Rw) (pl : List Pl) (F : List Nat) (w : World) (r : Value) (e : Ending) (w' : World) : Prop :=
 e = .returned r ∧ ∃ FS Fs c,WorldAt w' p ps mt mp sl tb rw pl FS Fs c ∧ Turns w F (wF p mt mp tb FS Fs) w'
attribute [local go_sem] AllFrom.cons_eq AllFrom.nil_eq putF_nil putF_cons wantedL_none wantedL_some OpGoalT OpGoalV OpGoalQ YieldsR preF_nil preF_cons
theorem zeroTab (w : World) : (zeroValue 164).run Tryz.prog w = .ok (.pointer none) w:=by kernel_rfl
theorem updL_twice {α : Type} (f : Nat → α) (k : Nat) (x y : α) : updL (updL f k x) k y = updL f k y:=by funext j;unfold updL;split <;> rfl
theorem below_drew {w : World} : Below w.heap.size w w.drew:=(Below.refl _ _).drew
section
variable {w : World} {p ps mt mp : Nat} {sl : Sl} {tb : List (Nat × Nat)} {rw : Nat → List Rw} {pl : List Pl} {FS : List Nat} {Fs : Nat → List Nat} {c : Nat → Nat}
set_option maxRecDepth 20000 in
set_option maxHeartbeats 4000000 in
theorem lay_old (h : WorldAt w p ps mt mp sl tb rw pl FS Fs c) (s : Nat) (g : Int) (kn b : Nat) (a0 a1 a2 a3 a4 a5 a6 a7 : Int) (hk : (kn,b) ∈ tb) (hkn : kn < 256) (hbe : beastE (kn : Int) [a0,a1,a2,a3,a4,a5,a6,a7] = 0)
  (hs : s < 256) (hn : ∀ x ∈ pl,x.1 ≠ s) (hl : (rw kn).length < 1200000000000) :
  Calls Tryz.prog 72 #[.pointer (some ⟨p,0,none⟩),.agg #[.int .i64 (s : Int),.int .i64 g],.agg #[.int .i64 (kn : Int),.int .i64 a0,.int .i64 a1,.int .i64 a2,.int .i64 a3,.int .i64 a4,.int .i64 a5,.int .i64 a6,.int .i64 a7]] w
   (WPost p ps mt mp sl tb (updL rw kn (rw kn ++ [(((s : Int),g),(kn : Int),a0,a1,a2,a3,a4,a5,a6,a7)])) (pl ++ [(s,kn,(rw kn).length)]) (wF p mt mp tb FS Fs) w (.tuple #[])):=by
 obtain ⟨w0,hw0⟩ : ∃ w0,(w.alloc (.cells #[.int .i64 (s : Int),.int .i64 g] 46)).alloc (.cells #[.int .i64 (kn : Int),.int .i64 a0,.int .i64 a1,.int .i64 a2,.int .i64 a3,.int .i64 a4,.int .i64 a5,.int .i64 a6,.int .i64 a7] 49) = w0:=⟨_,rfl⟩
 have hb0 : Below w.heap.size w w0:=by rw [← hw0];exact ((Below.refl _ _).alloc (Nat.le_refl _) _).alloc (by simp) _
 have hz0 : w0.heap[w.heap.size]? = some (.cells #[.int .i64 (s : Int),.int .i64 g] 46 (0,0)):=by rw [← hw0];exact blk_alloc (heap_alloc_new w _) _
 have hz1 : w0.heap[w.heap.size + 1]? = some (.cells #[.int .i64 (kn : Int),.int .i64 a0,.int .i64 a1,.int .i64 a2,.int .i64 a3,.int .i64 a4,.int .i64 a5,.int .i64 a6,.int .i64 a7] 49 (0,0)):=by
  rw [← hw0];have:=heap_alloc_new (w.alloc (.cells #[.int .i64 (s : Int),.int .i64 g] 46)) (.cells #[.int .i64 (kn : Int),.int .i64 a0,.int .i64 a1,.int .i64 a2,.int .i64 a3,.int .i64 a4,.int .i64 a5,.int .i64 a6,.int .i64 a7] 49);simpa using this
 have h0:=h.below hb0
 have h0d:=h0.below below_drew
 have hlk:=mi_in colPr_keys Tryz.underlying117 h0d.tm hkn hk true
 simp only [colPr,if_true] at hlk
 have e0:=blk_cell h0.blk 1
 simp only [eA,eZ,eS] at e0
 have hpl:=blk_lt h0.blk
 obtain ⟨q0,q1,ql⟩:=cells2 hz0
 obtain ⟨r0,r1,r2,r3,r4,r5,r6,r7,r8,rl⟩:=cells9 hz1
 have H1:=Lib.hid (rt_add (h0d.tab _ hk) hkn (s : Int) g a0 a1 a2 a3 a4 a5 a6 a7 hbe hl)
 have hltw:=h.lt
 obtain ⟨H,Hb0,Hz0,Hz1,H0,H0d,Hltw,Hk,Hn,Hs⟩:=hid10 h hb0 hz0 hz1 h0 h0d hltw hk hn hs
 clear h hb0 hz0 hz1 h0 h0d hltw hk hn hs
 clear hbe hl
 go_enter Tryz.func72,Tryz.ntmps72
 go_wp2_with fail
 clear hw0
 refine wp_planR 12 [0] [some 11,some 12,some 13,some 14,some 15,some 16,some 17,some 10,some 18,some 19,some 6,some 7] [[],[0],[0,1],[0,1,2],[],[4],[0,1,2,3,4,5],[0,1,2,3,4,5,6],[0,1,2,3,4,5,6,7],[0,1,2,3,4,5,6,7],[0,1,2,3,4,5,6,7,8],[0,1,2,3,4,5,6,7,8,9,10]] [0,1,2,3,4,5,6,7,8,9,10,11] mixed rfl (by kernel_rfl) (by decide) (by decide) rfl ?_
 iterate 12 apply Exists.intro
 refine ⟨rfl,?_,?_⟩
 ·simp only [tS,List.take_zero,AllFrom.cons_eq,AllFrom.nil_eq,OpGoalQ]
  refine ⟨?_,?_,?_,?_,?_,?_,?_,?_,?_,?_,?_,?_,trivial⟩
  all_goals (intro σ hp;(try simp only [gZ,gS,mC,mN,preF_cons,preF_nil,isV,and_true] at hp);(first | (have hq : True:=hp;clear hq hp) | skip))
  all_goals (go_simp;exact ⟨rfl,rfl⟩)
 intro σ hp
 simp only [gZ,gS,mC,mN,preF_cons,preF_nil,isV,and_true] at hp
 simp only [dS,List.drop_zero]
 go_simp
 clear hp
 refine ⟨rfl,?_⟩
 go_wp2_with fail
 refine H1.out.mono ?_
 rintro e w2 ⟨rfl,F2,ht2,htu⟩
 obtain ⟨h2,hT2⟩:=H0d.out.turnTab Hk.out ht2 htu
 have hd2 : ∀ y,w.heap.size ≤ y → y ∉ Fs kn:=fun y hy e => by have:=Hltw.out y (mem_wF.2 (.inr (.inr (.inr (.inr ⟨_,Hk.out,e⟩)))));omega
 have hz2:=htu.mod.keep (blk_drew Hz0.out) (hd2 _ (Nat.le_refl _))
 have hz3:=htu.mod.keep (blk_drew Hz1.out) (hd2 _ (by omega))
 have e0:=blk_cell h2.blk 2
 simp only [eA,eZ,eS] at e0
 have hpl:=blk_lt h2.blk
 obtain ⟨q0,q1,ql⟩:=cells2 hz2
 obtain ⟨r0,r1,r2,r3,r4,r5,r6,r7,r8,rl⟩:=cells9 hz3
 have h2d:=h2.below below_drew
 obtain ⟨w4,hrun,hmap,hmod,hsz⟩:=mi_put plPr_keys Tryz.underlying118 h2d.pm Hs.out Hn.out (kn,(rw kn).length)
 simp only [plPr] at hrun
 obtain ⟨h4,hT4⟩:=h2d.turnPl hmap hmod
 have hT:=(((Turns.after Hb0.out (Turns.ofBelow below_drew)).trans hT2).trans (Turns.ofBelow below_drew)).trans hT4
 obtain ⟨H4,HT⟩:=hid2 h4 hT
 clear h4 hT
 clear ht2 htu h2 hT2 hd2 hz2 hz3 h2d hmap hmod hT4 hsz
 go_wp2_with fail
 refine wp_planR 10 [0,8] [some 42,some 43,some 44,some 45,some 46,some 47,some 48,some 49,some 50,some 51,none] [[],[0],[0,1],[0,1,2],[],[4],[],[6],[],[6,7,8],[0,1,2,3,4,5,6,7,8,9]] [0,1,2,3,4,5,6,7,8,9] mixed rfl (by kernel_rfl) (by decide) (by decide) rfl ?_
 iterate 10 apply Exists.intro
 refine ⟨rfl,?_,?_⟩
 ·simp only [tS,List.take_zero,AllFrom.cons_eq,AllFrom.nil_eq,OpGoalQ]
  refine ⟨?_,?_,?_,?_,?_,?_,?_,?_,?_,?_,trivial⟩
  all_goals (intro σ hp;(try simp only [gZ,gS,mC,mN,preF_cons,preF_nil,isV,and_true] at hp);(first | (have hq : True:=hp;clear hq hp) | skip))
  all_goals (go_simp;exact ⟨rfl,rfl⟩)
 intro σ hp
 simp only [gZ,gS,mC,mN,preF_cons,preF_nil,isV,and_true] at hp
 simp only [dS,List.drop_zero]
 go_simp
 clear hp
 go_wp2
 refine ⟨rfl,?_⟩
 go_wp2
 refine bodyPost_end (v:=.tuple #[]) ?_ rfl ?_
 ·unfold results;try go_simp
 ·exact ⟨rfl,_,_,_,H4.out,HT.out⟩
 all_goals exact undef
set_option maxRecDepth 20000 in
set_option maxHeartbeats 4000000 in
theorem lay_new (h : WorldAt w p ps mt mp sl tb rw pl FS Fs c) (s : Nat) (g : Int) (kn : Nat) (a0 a1 a2 a3 a4 a5 a6 a7 : Int) (hk : ∀ t ∈ tb,t.1 ≠ kn) (hkn : kn < 256) (hbe : beastE (kn : Int) [a0,a1,a2,a3,a4,a5,a6,a7] = 0)
  (hs : s < 256) (hn : ∀ x ∈ pl,x.1 ≠ s) :
  Calls Tryz.prog 72 #[.pointer (some ⟨p,0,none⟩),.agg #[.int .i64 (s : Int),.int .i64 g],.agg #[.int .i64 (kn : Int),.int .i64 a0,.int .i64 a1,.int .i64 a2,.int .i64 a3,.int .i64 a4,.int .i64 a5,.int .i64 a6,.int .i64 a7]] w
   (fun e w' => ∃ b,WPost p ps mt mp sl (tb ++ [(kn,b)]) (updL rw kn [(((s : Int),g),(kn : Int),a0,a1,a2,a3,a4,a5,a6,a7)]) (pl ++ [(s,kn,0)]) (wF p mt mp tb FS Fs) w (.tuple #[]) e w'):=by
 obtain ⟨w0,hw0⟩ : ∃ w0,(w.alloc (.cells #[.int .i64 (s : Int),.int .i64 g] 46)).alloc (.cells #[.int .i64 (kn : Int),.int .i64 a0,.int .i64 a1,.int .i64 a2,.int .i64 a3,.int .i64 a4,.int .i64 a5,.int .i64 a6,.int .i64 a7] 49) = w0:=⟨_,rfl⟩
 have hb0 : Below w.heap.size w w0:=by rw [← hw0];exact ((Below.refl _ _).alloc (Nat.le_refl _) _).alloc (by simp) _
 have hz0 : w0.heap[w.heap.size]? = some (.cells #[.int .i64 (s : Int),.int .i64 g] 46 (0,0)):=by rw [← hw0];exact blk_alloc (heap_alloc_new w _) _
 have hz1 : w0.heap[w.heap.size + 1]? = some (.cells #[.int .i64 (kn : Int),.int .i64 a0,.int .i64 a1,.int .i64 a2,.int .i64 a3,.int .i64 a4,.int .i64 a5,.int .i64 a6,.int .i64 a7] 49 (0,0)):=by
  rw [← hw0];have:=heap_alloc_new (w.alloc (.cells #[.int .i64 (s : Int),.int .i64 g] 46)) (.cells #[.int .i64 (kn : Int),.int .i64 a0,.int .i64 a1,.int .i64 a2,.int .i64 a3,.int .i64 a4,.int .i64 a5,.int .i64 a6,.int .i64 a7] 49);simpa using this
 have h0:=h.below hb0
 have h0d:=h0.below below_drew
 have hlk:=h0d.tm.look_out keyedInt Tryz.underlying117 (zeroTab _) (keyInt (inR_nat hkn)) (key_ne colPr_keys hk) true
 simp only [if_true] at hlk
 have e0:=blk_cell h0.blk 1
 simp only [eA,eZ,eS] at e0
 have hpl:=blk_lt h0.blk
 obtain ⟨q0,q1,ql⟩:=cells2 hz0
 obtain ⟨r0,r1,r2,r3,r4,r5,r6,r7,r8,rl⟩:=cells9 hz1
 have HN:=Lib.hid (rt_new kn hkn);have Hkn:=Lib.hid hkn;have Hbe:=Lib.hid hbe
 have hltw:=h.lt
 obtain ⟨H,Hb0,Hz0,Hz1,H0,H0d,Hltw,Hk,Hn,Hs⟩:=hid10 h hb0 hz0 hz1 h0 h0d hltw hk hn hs
 clear h hb0 hz0 hz1 h0 h0d hltw hk hn hs
 clear hbe hkn
 go_enter Tryz.func72,Tryz.ntmps72
 go_wp2_with fail
 clear hw0
 refine wp_planR 12 [0] [some 11,some 12,some 13,some 14,some 15,some 16,some 17,some 10,some 18,some 19,some 6,some 7] [[],[0],[0,1],[0,1,2],[],[4],[0,1,2,3,4,5],[0,1,2,3,4,5,6],[0,1,2,3,4,5,6,7],[0,1,2,3,4,5,6,7],[0,1,2,3,4,5,6,7,8],[0,1,2,3,4,5,6,7,8,9,10]] [0,1,2,3,4,5,6,7,8,9,10,11] mixed rfl (by kernel_rfl) (by decide) (by decide) rfl ?_
 iterate 12 apply Exists.intro
 refine ⟨rfl,?_,?_⟩
 ·simp only [tS,List.take_zero,AllFrom.cons_eq,AllFrom.nil_eq,OpGoalQ]
  refine ⟨?_,?_,?_,?_,?_,?_,?_,?_,?_,?_,?_,?_,trivial⟩
  all_goals (intro σ hp;(try simp only [gZ,gS,mC,mN,preF_cons,preF_nil,isV,and_true] at hp);(first | (have hq : True:=hp;clear hq hp) | skip))
  all_goals (go_simp;exact ⟨rfl,rfl⟩)
 intro σ hp
 simp only [gZ,gS,mC,mN,preF_cons,preF_nil,isV,and_true] at hp
 simp only [dS,List.drop_zero]
 go_simp
 clear hp
 refine ⟨rfl,?_⟩
 go_wp2_with fail
 refine (HN.out _).mono ?_
 rintro e w1 ⟨b,F1,rfl,ht1,hF1,hb1⟩
 have hb01 : Below w0.heap.size w0 w1:=below_drew.trans (hb1.mono (Nat.le_refl _))
 have hz0:=(Mod.ofBelow hb01).keep Hz0.out (by simp)
 have hz1:=(Mod.ofBelow hb01).keep Hz1.out (by simp)
 have h1:=H0.out.below hb01
 have e0:=blk_cell h1.blk 1
 simp only [eA,eZ,eS] at e0
 have hpl:=blk_lt h1.blk
 obtain ⟨q0,q1,ql⟩:=cells2 hz0
 obtain ⟨r0,r1,r2,r3,r4,r5,r6,r7,r8,rl⟩:=cells9 hz1
 obtain ⟨w2,hrun,hmap,hmod,hsz⟩:=mi_put colPr_keys Tryz.underlying117 (h1.below below_drew).tm Hkn.out Hk.out b
 simp only [colPr] at hrun
 obtain ⟨h2,hT2⟩:=H0.out.addTab (hb01.trans (below_drew.mono hb01.size)) (ht1.mod (Mod.ofBelow below_drew) (by simp)) (fun y hy => hF1 y hy) Hk.out hmap hmod
 have hno : ∀ y,w.heap.size ≤ y → y ∉ [mt]:=fun y hy e => by simp at e;subst e;have:=Hltw.out y (mem_wF.2 (.inr (.inl rfl)));omega
 have hz2:=hmod.keep (blk_drew hz0) (hno _ (Nat.le_refl _))
 have hz3:=hmod.keep (blk_drew hz1) (hno _ (by omega))
 obtain ⟨H2,HT2,Hy0,Hy1,Hno,Hb01,Hx0,Hx1,H1⟩:=hid9 h2 hT2 hz2 hz3 hno hb01 hz0 hz1 h1
 clear h2 hT2 hz2 hz3 hno hb01 hz0 hz1 h1
 have HF1:=Lib.hid hF1
 clear ht1 hF1 hb1 hmap hmod hsz
 go_wp2_with fail
 refine wp_planR 7 [0,6] [some 28,some 29,some 30,some 31,some 32,some 33,some 34,none] [[],[0],[0,1],[0,1,2],[],[4],[],[0,1,2,3,4,5,6]] [0,1,2,3,4,5,6] mixed rfl (by kernel_rfl) (by decide) (by decide) rfl ?_
 iterate 7 apply Exists.intro
 refine ⟨rfl,?_,?_⟩
 ·simp only [tS,List.take_zero,AllFrom.cons_eq,AllFrom.nil_eq,OpGoalQ]
  refine ⟨?_,?_,?_,?_,?_,?_,?_,trivial⟩
  all_goals (intro σ hp;(try simp only [gZ,gS,mC,mN,preF_cons,preF_nil,isV,and_true] at hp);(first | (have hq : True:=hp;clear hq hp) | skip))
  all_goals (go_simp;exact ⟨rfl,rfl⟩)
 intro σ hp
 simp only [gZ,gS,mC,mN,preF_cons,preF_nil,isV,and_true] at hp
 simp only [dS,List.drop_zero]
 go_simp
 clear hp
 go_wp2
 refine ⟨rfl,?_⟩
 clear hrun e0 hpl q0 q1 ql r0 r1 r2 r3 r4 r5 r6 r7 r8 rl
 have hy0:=Hy0.out
 have hy1:=Hy1.out
 obtain ⟨q0,q1,ql⟩:=cells2 hy0
 obtain ⟨r0,r1,r2,r3,r4,r5,r6,r7,r8,rl⟩:=cells9 hy1
 clear hy0 hy1
 have hk2 : (kn,b) ∈ tb ++ [(kn,b)]:=by simp
 have ht:=H2.out.tab _ hk2
 have hadd:=rt_add ht Hkn.out (s : Int) g a0 a1 a2 a3 a4 a5 a6 a7 Hbe.out (by simp only [updL_same];simp)
 simp only [updL_same] at hadd
 have HA:=Lib.hid hadd
 have Hk2:=Lib.hid hk2
 clear hk2
 clear ht hadd
 go_wp2_with fail
 refine HA.out.mono ?_
 rintro e w3 ⟨rfl,F2,ht2,htu⟩
 obtain ⟨h2,hT3⟩:=H2.out.turnTab Hk2.out ht2 (by rw [updL_same];exact htu)
 have htu : Turns w2 (updL Fs kn F1 kn) F2 w3:=by rw [updL_same];exact htu
 have hd2 : ∀ y,y < w0.heap.size → y ∉ updL Fs kn F1 kn:=fun y hy2 e => by
  rw [updL_same] at e
  have : w0.heap.size ≤ y:=HF1.out y e
  omega
 have hz2:=htu.mod.keep Hy0.out (hd2 _ (blk_lt Hz0.out))
 have hz3:=htu.mod.keep Hy1.out (hd2 _ (blk_lt Hz1.out))
 have e0:=blk_cell h2.blk 2
 simp only [eA,eZ,eS] at e0
 have hpl:=blk_lt h2.blk
 obtain ⟨q0,q1,ql⟩:=cells2 hz2
 obtain ⟨r0,r1,r2,r3,r4,r5,r6,r7,r8,rl⟩:=cells9 hz3
 have h2d:=h2.below below_drew
 obtain ⟨w4,hrun,hmap,hmod,hsz⟩:=mi_put plPr_keys Tryz.underlying118 h2d.pm Hs.out Hn.out (kn,0)
 simp only [plPr] at hrun
 rw [show ((0 : Nat) : Int) = 0 from rfl] at hrun
 obtain ⟨h4,hT4⟩:=h2d.turnPl hmap hmod
 have hT:=(((Turns.after Hb0.out HT2.out).trans hT3).trans (Turns.ofBelow below_drew)).trans hT4
 obtain ⟨H4,HT⟩:=hid2 h4 hT
 clear h4 hT
 clear ht2 htu h2 hT3 hd2 hz2 hz3 h2d hmap hmod hT4 hsz
 go_wp2_with fail
 refine wp_planR 10 [0,8] [some 42,some 43,some 44,some 45,some 46,some 47,some 48,some 49,some 50,some 51,none] [[],[0],[0,1],[0,1,2],[],[4],[],[6],[],[6,7,8],[0,1,2,3,4,5,6,7,8,9]] [0,1,2,3,4,5,6,7,8,9] mixed rfl (by kernel_rfl) (by decide) (by decide) rfl ?_
 iterate 10 apply Exists.intro
 refine ⟨rfl,?_,?_⟩
 ·simp only [tS,List.take_zero,AllFrom.cons_eq,AllFrom.nil_eq,OpGoalQ]
  refine ⟨?_,?_,?_,?_,?_,?_,?_,?_,?_,?_,trivial⟩
  all_goals (intro σ hp;(try simp only [gZ,gS,mC,mN,preF_cons,preF_nil,isV,and_true] at hp);(first | (have hq : True:=hp;clear hq hp) | skip))
  all_goals (go_simp;exact ⟨rfl,rfl⟩)
 intro σ hp
 simp only [gZ,gS,mC,mN,preF_cons,preF_nil,isV,and_true] at hp
 simp only [dS,List.drop_zero]
 go_simp
 clear hp
 go_wp2
 refine ⟨rfl,?_⟩
 go_wp2
 refine bodyPost_end (v:=.tuple #[]) ?_ rfl ?_
 ·unfold results;try go_simp
 ·exact ⟨b,rfl,_,_,_,(by have:=H4.out;rw [updL_twice] at this;exact this),HT.out⟩
 all_goals exact undef
end
end Go.Proofs.YtoheblfpjinmnaaGreatDoor
namespace Go.Proofs.YtoheblfpjinmnaaGreatDoor
open Go Go.RowKit
attribute [local go_sem] AllFrom.cons_eq AllFrom.nil_eq putF_nil putF_cons wantedL_none wantedL_some OpGoalT OpGoalV OpGoalQ OpGoalA YieldsR preF_nil preF_cons
section
variable {w : World} {p ps mt mp : Nat} {sl : Sl} {tb : List (Nat × Nat)} {rw : Nat → List Rw} {pl : List Pl} {FS : List Nat} {Fs : Nat → List Nat} {c : Nat → Nat}
end
end Go.Proofs.YtoheblfpjinmnaaGreatDoor
namespace Go.Proofs.YtoheblfpjinmnaaGreatDoor
open Go Go.RowKit
def RepW (w : World) (p : Nat) (sl : Sl) (L : List Rw) (F : List Nat) : Prop :=
 ∃ ps mt mp tb rw pl FS Fs c,WorldAt w p ps mt mp sl tb rw pl FS Fs c ∧ WCore (· ∈ L) (tb.map (·.1)) rw pl ∧ WOk sl L ∧ F = wF p mt mp tb FS Fs
theorem RepW.mod {w w' : World} {p : Nat} {sl : Sl} {L : List Rw} {F G : List Nat} (h : RepW w p sl L F) (hm : Mod G w w') (hd : ∀ y ∈ F,y ∉ G) : RepW w' p sl L F:=by
 obtain ⟨ps,mt,mp,tb,rw,pl,FS,Fs,c,h1,h2,h3,rfl⟩:=h
 exact ⟨ps,mt,mp,tb,rw,pl,FS,Fs,c,h1.mod hm hd,h2,h3,rfl⟩
theorem RepW.below {w w' : World} {p : Nat} {sl : Sl} {L : List Rw} {F : List Nat} (h : RepW w p sl L F) (hb : Below w.heap.size w w') : RepW w' p sl L F:=h.mod (Mod.ofBelow hb) (by simp)
theorem RepW.lt {w : World} {p : Nat} {sl : Sl} {L : List Rw} {F : List Nat} (h : RepW w p sl L F) : ∀ y ∈ F,y < w.heap.size:=by
 obtain ⟨ps,mt,mp,tb,rw,pl,FS,Fs,c,h1,h2,h3,rfl⟩:=h
 exact h1.lt
theorem MapAt.fresh {w' : World} {b : Nat} (h : w'.heap[b]? = some (.map #[] 0)) : MapAt Tryz.prog 3 w' b []:=⟨#[],0,h,⟨Go.MapKept.stamped_empty 0,by simp,rfl⟩⟩
def NewW (w : World) (e : Ending) (w' : World) : Prop:=∃ p F,e = .returned (.pointer (some ⟨p,0,none⟩)) ∧ RepW w' p [] [] F ∧ (∀ y ∈ F,w.heap.size ≤ y) ∧ Below w.heap.size w w'
set_option maxRecDepth 20000 in
theorem worldNew_any (w : World) : Calls Tryz.prog 69 #[] w (NewW w):=by
 have hmm:=@run_makeMap Tryz.prog
 go_enter Tryz.func69,Tryz.ntmps69
 go_wp2_with fail
 refine (slotsNew_any _).mono ?_
 rintro e w1 ⟨ps,rfl,hb1,hs1,hps⟩
 have hsz:=hb1.size
 have hpl:=hs1.lt ps (by simp)
 obtain ⟨w2,hw2⟩ : ∃ w2,w2 = ((w1.alloc (.map #[] 0)).alloc (.map #[] 0)).alloc (.cells #[.pointer (some ⟨ps,0,none⟩),.map (some w1.heap.size),.map (some (w1.heap.size + 1))] 120):=⟨_,rfl⟩
 have h0 : w2.heap[w1.heap.size]? = some (.map #[] 0):=by rw [hw2];exact blk_alloc (blk_alloc (MapKept.heap_alloc w1 _).1 _) _
 have h1 : w2.heap[w1.heap.size + 1]? = some (.map #[] 0):=by rw [hw2];have:=(MapKept.heap_alloc (w1.alloc (.map #[] 0)) (.map #[] 0)).1;simp only [World.size_alloc] at this;exact blk_alloc this _
 have h2 : w2.heap[w1.heap.size + 2]? = some (.cells #[.pointer (some ⟨ps,0,none⟩),.map (some w1.heap.size),.map (some (w1.heap.size + 1))] 120 (0,0)):=by
  rw [hw2];have:=heap_alloc_new ((w1.alloc (.map #[] 0)).alloc (.map #[] 0)) (.cells #[.pointer (some ⟨ps,0,none⟩),.map (some w1.heap.size),.map (some (w1.heap.size + 1))] 120);simpa using this
 have hb2 : Below w1.heap.size w1 w2:=by rw [hw2];exact (((Below.refl _ _).alloc (Nat.le_refl _) _).alloc (by simp only [World.size_alloc];omega) _).alloc (by simp only [World.size_alloc];omega) _
 have HS:=Lib.hid (hs1.mod (Mod.ofBelow hb2) (by simp));have HB:=Lib.hid (hb1.trans (hb2.mono hsz));have HW:=Lib.hid hw2
 obtain ⟨H0,H1,H2⟩:=hid3 h0 h1 h2
 clear hs1 hb1 hw2 h0 h1 h2 hb2
 go_wp2
 go_ret
 rw [← HW.out]
 refine ⟨w1.heap.size + 2,wF (w1.heap.size + 2) w1.heap.size (w1.heap.size + 1) [] [ps] (fun _ => []),rfl,⟨ps,w1.heap.size,w1.heap.size + 1,[],fun _ => [],[],[ps],fun _ => [],fun y => if y = w1.heap.size + 2 then 1 else if y = ps then 2 else if y = w1.heap.size then 3 else 4,⟨H2.out,HS.out,MapAt.fresh H0.out,MapAt.fresh H1.out,by simp,by simp,fun y hy => ?_,?_,?_,by simp⟩,?_,wok_nil,rfl⟩,?_,HB.out⟩
 ·simp at hy;subst hy;rw [if_neg (by omega),if_pos rfl]
 ·show (if _ then _ else _) = 3
  rw [if_neg (by omega),if_neg (by omega),if_pos rfl]
 ·show (if _ then _ else _) = 4
  rw [if_neg (by omega),if_neg (by omega),if_neg (by omega)]
 ·exact wcore_nil.congr (by simp)
 ·intro y hy
  rcases mem_wF.1 hy with rfl | rfl | rfl | hy | ⟨t,ht,-⟩
  ·omega
  ·omega
  ·omega
  ·simp at hy;omega
  ·simp at ht
section
variable {w : World} {p ps mt mp : Nat} {sl : Sl} {tb : List (Nat × Nat)} {rw : Nat → List Rw} {pl : List Pl} {FS : List Nat} {Fs : Nat → List Nat} {c : Nat → Nat} {M : Rw → Prop} {L : List Rw}
theorem WCore.len (h : WCore M (tb.map (·.1)) rw pl) (hL : ∀ y,M y → y ∈ L) {k : Nat} (hk : k ∈ tb.map (·.1)) : (rw k).length ≤ L.length:=by
 refine List.Nodup.length_le_of_subset ?_ fun y hy => ?_
 ·refine List.pairwise_iff_getElem.2 fun i j hi hj hij e => ?_
  obtain ⟨-,-,s,q1,q2⟩:=h.row k hk i _ (List.getElem?_eq_getElem hi)
  obtain ⟨-,-,s',q3,q4⟩:=h.row k hk j _ (List.getElem?_eq_getElem hj)
  rw [e] at q1
  have : s = s':=by omega
  subst this
  have:=key_one h.pn q2 q4
  simp only [Prod.mk.injEq] at this
  omega
 ·obtain ⟨i,hi,rfl⟩:=List.mem_iff_getElem.1 hy
  exact hL _ (h.row k hk i _ (List.getElem?_eq_getElem hi)).1
def WMid (p ps mt mp : Nat) (sl : Sl) (M : Rw → Prop) (F : List Nat) (w : World) (r : Value) (e : Ending) (w' : World) : Prop :=
 e = .returned r ∧ ∃ tb rw pl FS Fs c,WorldAt w' p ps mt mp sl tb rw pl FS Fs c ∧ WCore M (tb.map (·.1)) rw pl ∧ Turns w F (wF p mt mp tb FS Fs) w'
theorem lay_core (h : WorldAt w p ps mt mp sl tb rw pl FS Fs c) (hc : WCore M (tb.map (·.1)) rw pl) (hL : ∀ y,M y → y ∈ L) (hL60 : L.length ≤ 60) (s : Nat) (hs : s < 256) (g K a0 a1 a2 a3 a4 a5 a6 a7 : Int) (hb : beastZ (K,a0,a1,a2,a3,a4,a5,a6,a7) = 0)
  (hn : ∀ y,M y → y.1.1 ≠ (s : Int)) :
  Calls Tryz.prog 72 #[.pointer (some ⟨p,0,none⟩),.agg #[.int .i64 (s : Int),.int .i64 g],.agg #[.int .i64 K,.int .i64 a0,.int .i64 a1,.int .i64 a2,.int .i64 a3,.int .i64 a4,.int .i64 a5,.int .i64 a6,.int .i64 a7]] w
   (WMid p ps mt mp sl (fun y => M y ∨ y = (((s : Int),g),K,a0,a1,a2,a3,a4,a5,a6,a7)) (wF p mt mp tb FS Fs) w (.tuple #[])):=by
 obtain ⟨kn,hkn,e,-⟩:=(beastZ_iff _).1 hb
 simp only at e
 subst e
 have hsn:=hc.slotNew hn
 by_cases hk : kn ∈ tb.map (·.1)
 ·obtain ⟨⟨k',b⟩,hkb,rfl⟩:=List.mem_map.1 hk
  have hl : (rw k').length ≤ L.length:=hc.len hL hk
  refine (lay_old h s g k' b a0 a1 a2 a3 a4 a5 a6 a7 hkb hkn hb hs hsn (by omega)).mono ?_
  rintro e w' ⟨rfl,FS',Fs',c',h',hT⟩
  exact ⟨rfl,_,_,_,_,_,_,h',hc.layOld hk rfl rfl hn,hT⟩
 ·refine (lay_new h s g kn a0 a1 a2 a3 a4 a5 a6 a7 (fun t ht e => hk (List.mem_map.2 ⟨t,ht,e⟩)) hkn hb hs hsn).mono ?_
  rintro e w' ⟨b,rfl,FS',Fs',c',h',hT⟩
  refine ⟨rfl,_,_,_,_,_,_,h',?_,hT⟩
  rw [List.map_append]
  exact hc.layNew hk rfl rfl hn
end
theorem box1 (w : World) (o1 : Obj) : ∃ w0,w.alloc o1 = w0 ∧ Below w.heap.size w w0 ∧ w0.heap[w.heap.size]? = some o1 ∧ w0.heap.size = w.heap.size + 1 :=
 ⟨_,rfl,(Below.refl _ _).alloc (Nat.le_refl _) _,(MapKept.heap_alloc w o1).1,by simp⟩
attribute [local go_sem] AllFrom.cons_eq AllFrom.nil_eq putF_nil putF_cons wantedL_none wantedL_some OpGoalT OpGoalV OpGoalQ OpGoalA YieldsR preF_nil preF_cons
section
variable {w : World} {p : Nat} {sl : Sl} {L : List Rw} {F : List Nat}
end
end Go.Proofs.YtoheblfpjinmnaaGreatDoor
namespace Go.Proofs.YtoheblfpjinmnaaGreatDoor
open Go Go.RowKit
attribute [local go_sem] AllFrom.cons_eq AllFrom.nil_eq putF_nil putF_cons wantedL_none wantedL_some OpGoalT OpGoalV OpGoalQ OpGoalA YieldsR preF_nil preF_cons
section
variable {w : World} {p : Nat} {sl : Sl} {L : List Rw} {F : List Nat}
end
end Go.Proofs.YtoheblfpjinmnaaGreatDoor
namespace Go.Proofs.YtoheblfpjinmnaaGreatDoor
open Go Go.RowKit
structure PostK (i : Nat) (n : List Nat) (c : Value) (J : Value → World → Prop) (v : Value) (w : World) : Prop where
 val : i ∈ n ∨ v = c
 inv : J v w
section
variable {P : Program}
def vpK (n : List Nat) : Nat → List Value → List (Value → World → Prop)
 | _,[] => []
 | k,v :: vs => (fun u _ => k ∈ n ∨ u = v) :: vpK n (k + 1) vs
theorem vpK_get (n : List Nat) : ∀ (vs : List Value) (k i : Nat),i < vs.length → (vpK n k vs).getD i (fun _ _ => True) = fun u _ => k + i ∈ n ∨ u = vs.getD i undef
 | [],_,_,h => by simp at h
 | v :: vs,k,0,_ => rfl
 | v :: vs,k,i + 1,h => by
  have:=vpK_get n vs (k + 1) i (by simpa using h)
  rw [show k + 1 + i = k + (i + 1) by omega] at this
  exact this
theorem keepAll_vpK {n : List Nat} {σ : Nat → Value} {L : Nat → Bool} {w w' : World} : ∀ (vs : List Value) (k j : Nat),KeepAll σ L w w' k (vpK n j vs)
 | [],_,_ => trivial
 | _ :: vs,k,j => ⟨fun _ h => h,keepAll_vpK vs (k + 1) (j + 1)⟩
def PreK (n : List Nat) (vs : List Value) (σ : Nat → Value) : List Nat → Prop
 | [] => True
 | j :: l => (j ∈ n ∨ σ j = vs.getD j undef) ∧ PreK n vs σ l
theorem preK_nil {n : List Nat} {vs : List Value} {σ : Nat → Value} : PreK n vs σ [] = True:=rfl
theorem preK_cons {n : List Nat} {vs : List Value} {σ : Nat → Value} {j : Nat} {l : List Nat} : PreK n vs σ (j :: l) = ((j ∈ n ∨ σ j = vs.getD j undef) ∧ PreK n vs σ l):=rfl
theorem preK_of {n : List Nat} {vs : List Value} {σ : Nat → Value} {w : World} : ∀ (l : List Nat),(∀ j ∈ l,j < vs.length) → PreF (vpK n 0 vs) σ w l → PreK n vs σ l
 | [],_,_ => trivial
 | j :: l,hl,h => by
  refine ⟨?_,preK_of l (fun x hx => hl x (by simp [hx])) h.2⟩
  have h1:=h.1
  rw [vpK_get n vs 0 j (hl j (by simp))] at h1
  simpa using h1
def OpGoalK (P : Program) (dsts : List (Option Tmp)) (pre : List (List Nat)) (vs : List Value) (n : List Nat) (I : (Nat → Bool) → (Nat → Value) → World → Prop) (a0 : Act) (i : Nat) (o : Oper) : Prop :=
 ∀ (L : Nat → Bool) (σ : Nat → Value) (w : World),L i = false → (∀ j ∈ pre.getD i [],L j = true) → (∀ k,i ∈ pre.getD k [] → L k = false) → I L σ w → PreK n vs σ (pre.getD i []) →
  if wantedL dsts (putF dsts σ (pre.getD i []) a0) o.guard = true then YieldsR P o (putF dsts σ (pre.getD i []) a0).eval w (PostK i n (vs.getD i undef) (fun v => I (upd L i) (updv σ i v)))
  else PostK i n (vs.getD i undef) (fun v => I (upd L i) (updv σ i v)) undef w
theorem wp_planK {Q : Exit → Act → World → Prop} {id : Nat} {l : List Oper} {a0 : Act} {w0 : World} (n : List Nat) (m : Nat) (fl : List Nat) (dsts : List (Option Tmp)) (pre : List (List Nat)) (is : List Nat) (I : (Nat → Bool) → (Nat → Value) → World → Prop)
  (hm : P.follows .mixedOrders = true) (hd : l.map (·.dst) = dsts) (hc : planOk l.toArray pre = true) (hT : tailOkB l pre m fl = true) (hmn : m ≤ l.length) (hpm : (pre.take m).all (fun q => q.all (fun j => decide (j < m))) = true)
  (h0 : I (fun _ => false) (fun _ => undef) w0.drew) (his : List.range m = is)
  (h : ExL m fun vs => vs.length = m ∧ AllFrom (OpGoalK P dsts pre vs n I a0) 0 (l.take m) ∧
   (∀ (L : Nat → Bool) (σ : Nat → Value) w,(∀ i ∈ is,L i = true) → I L σ w → PreK n vs σ is → wpList P l.toArray (OnlyN Q) (l.drop m) (putF dsts σ is a0) w)) :
  (Code.region id l.toArray true).wp P Q a0 w0:=by
 obtain ⟨vs,hl,h1,h2⟩:=h.out
 have hpre : ∀ i,i < m → ∀ j ∈ pre.getD i [],j < vs.length:=by
  intro i hi j hj
  rw [hl]
  cases hg : pre[i]? with
  | none => rw [List.getD_eq_getElem?_getD,hg] at hj;simp at hj
  | some q =>
   rw [List.getD_eq_getElem?_getD,hg] at hj
   simp only [Option.getD_some] at hj
   have hq : q ∈ pre.take m:=by
    refine List.mem_of_getElem? (i:=i) ?_
    rw [List.getElem?_take,if_pos hi];exact hg
   have:=List.all_eq_true.1 (List.all_eq_true.1 hpm q hq) j hj
   simpa using this
 refine wp_planF m fl dsts pre is 0 (fun _ => vpK n 0 vs) I hm hd hc hT hmn h0 his ?_
 show _ ∧ _
 refine ⟨allFrom_imp _ _ (fun j o hj hp => ?_) h1,fun L σ w hL hI hq => h2 L σ w hL hI (preK_of is (fun i hi => by rw [hl];rw [← his] at hi;simpa using hi) hq)⟩
 have hjm : j < m:=by
  rcases Nat.lt_or_ge j m with h | h
  ·exact h
  ·rw [List.getElem?_eq_none (by rw [List.length_take];omega)] at hj;cases hj
 intro L σ w hL1 hL2 hL3 hI hq
 simp only [Nat.zero_add] at hp hL1 hL2 hL3 hq ⊢
 have:=hp L σ w hL1 hL2 hL3 hI (preK_of _ (hpre j hjm) hq)
 have key : ∀ v w',PostK j n (vs.getD j undef) (fun v => I (upd L j) (updv σ j v)) v w' → PostV ((vpK n 0 vs).getD j (fun _ _ => True)) (fun v => I (upd L j) (updv σ j v)) (fun w' => KeepAll σ L w w' 0 (vpK n 0 vs)) v w':=fun v w' k =>
  ⟨by rw [vpK_get n vs 0 j (by omega),Nat.zero_add];exact k.val,k.inv,keepAll_vpK _ _ _⟩
 split
 ·next hw => rw [if_pos hw] at this;exact this.mono key
 ·next hw => rw [if_neg hw] at this;exact key _ _ this
end
end Go.Proofs.YtoheblfpjinmnaaGreatDoor
namespace Go.Proofs.YtoheblfpjinmnaaGreatDoor
open Go Go.RowKit
attribute [local go_sem] AllFrom.cons_eq AllFrom.nil_eq putF_nil putF_cons wantedL_none wantedL_some OpGoalT OpGoalV OpGoalQ OpGoalA OpGoalK YieldsR preF_nil preF_cons
structure IGet (n m : Nat) (w2 : World) (zs row : Array Value) (T : TypeId) (L : Nat → Bool) (σ : Nat → Value) (V : World) : Prop where
 b : Below w2.heap.size w2 V
 blk : L n = true → ∃ g,σ n = .pointer (some ⟨g,0,none⟩) ∧ w2.heap.size ≤ g ∧ V.heap[g]? = some (.cells (if L m = true then row else zs) T (0,0))
section
variable {n m : Nat} {w2 V V' : World} {zs row : Array Value} {T : TypeId} {L : Nat → Bool} {σ : Nat → Value}
theorem IGet.start (h : Below w2.heap.size w2 V) : IGet n m w2 zs row T (fun _ => false) σ V:=⟨h,fun e => by cases e⟩
theorem IGet.read (h : IGet n m w2 zs row T L σ V) {i : Nat} (h1 : i ≠ n) (h2 : i ≠ m) (v : Value) : IGet n m w2 zs row T (upd L i) (updv σ i v) V:=by
 have e1 : upd L i n = L n:=by unfold upd;simp [Ne.symm h1]
 have e2 : upd L i m = L m:=by unfold upd;simp [Ne.symm h2]
 refine ⟨h.b,fun e => ?_⟩
 rw [e1] at e
 rw [e2]
 obtain ⟨g,q1,q2,q3⟩:=h.blk e
 exact ⟨g,by unfold updv;rw [if_neg (Ne.symm h1)];exact q1,q2,q3⟩
theorem IGet.step (h : IGet n m w2 zs row T L σ V) (hb : Below V.heap.size V V') : IGet n m w2 zs row T L σ V' :=
 ⟨h.b.trans (hb.mono h.b.size),fun e => by obtain ⟨g,q1,q2,q3⟩:=h.blk e;exact ⟨g,q1,q2,(Mod.ofBelow hb).keep q3 (by simp)⟩⟩
theorem IGet.made (h : IGet n m w2 zs row T L σ V) (hnm : n ≠ m) (hm : L m = false) : IGet n m w2 zs row T (upd L n) (updv σ n (.pointer (some ⟨V.heap.size,0,none⟩))) (V.alloc (.cells zs T)):=by
 refine ⟨h.b.alloc h.b.size _,fun _ => ⟨V.heap.size,by unfold updv;rw [if_pos rfl],h.b.size,?_⟩⟩
 have e2 : upd L n m = false:=by unfold upd;simp [Ne.symm hnm,hm]
 rw [e2];exact heap_alloc_new V _
theorem IGet.stored {zl rl : List Value} (h : IGet n m w2 zl.toArray rl.toArray T L σ V) (hnm : n ≠ m) (hn : L n = true) (hm : L m = false) (hl : rl.length = zl.length) : ∃ g,σ n = .pointer (some ⟨g,0,none⟩) ∧ V.there g 0 rl.length ∧ ∀ v,IGet n m w2 zl.toArray rl.toArray T (upd L m) (updv σ m v) (V.setCells g 0 rl):=by
 obtain ⟨g,q1,q2,q3⟩:=h.blk hn
 rw [hm] at q3
 simp only [Bool.false_eq_true,if_false] at q3
 have hst:=setCells_block (w:=V) rl 0 V zl q3
 rw [setL_all rl zl hl] at hst
 have hmod:=mod_setCells (F:=[g]) (g:=g) (.inl (by simp)) rl 0 V (Mod.refl _ V)
 refine ⟨g,q1,hl ▸ blk_there q3 (Nat.le_refl _),fun v => ⟨h.b.trans (hmod.toBelow (by simpa using q2) h.b.size),fun _ => ⟨g,by unfold updv;rw [if_neg hnm];exact q1,q2,?_⟩⟩⟩
 have e2 : upd L m m = true:=by simp [upd]
 rw [e2];exact hst
end
theorem yr_store {P : Program} {o : Oper} {ρ : Operand → Value} {w : World} {J : Value → World → Prop} (ty : TypeId) (x y : Operand) (ho : o.op = .store ty x y) (b f : Nat) (vs : List Value) (hx : ρ x = .pointer (some ⟨b,f,none⟩)) (hy : ρ y = .agg vs.toArray) (ht : w.there b f vs.length)
  (hi : (P.info? ty).map (·.size) = some vs.length) (h1 : ∀ u ∈ vs,u.oneCell' = true) (h : J undef (w.setCells b f vs)) : YieldsR P o ρ w J:=by
 unfold YieldsR execOp
 simp only [ho,hx,hy,Instr.storeAt,Instr.sureAddr,Sem.run_bind,Sem.run_pure,Result.andThen_ok,run_storeVar_mid w b f ty vs.toArray (by simpa using ht) (by simpa using hi) (all_oneCell_toArray h1)]
 simpa using h
theorem IGet.yr_stored {P : Program} {o : Oper} {ρ : Operand → Value} {J : Value → World → Prop} {n m : Nat} {w2 V : World} {zl rl : List Value} {T : TypeId} {L : Nat → Bool} {σ : Nat → Value}
  (h : IGet n m w2 zl.toArray rl.toArray T L σ V) (hnm : n ≠ m) (hn : L n = true) (hm : L m = false) (hl : rl.length = zl.length) (ty : TypeId) (x y : Operand) (ho : o.op = .store ty x y) (hx : ρ x = σ n) (hy : ρ y = .agg rl.toArray)
  (hi : (P.info? ty).map (·.size) = some rl.length) (h1 : ∀ u ∈ rl,u.oneCell' = true) (hJ : ∀ V',IGet n m w2 zl.toArray rl.toArray T (upd L m) (updv σ m undef) V' → J undef V') : YieldsR P o ρ V J:=by
 obtain ⟨g,hr,hth,hst⟩:=h.stored hnm hn hm hl
 exact yr_store ty x y ho g 0 rl (hx.trans hr) hy hth hi h1 (hJ _ (hst _))
section
variable {w : World} {p : Nat} {sl : Sl} {L : List Rw} {F : List Nat}
end
end Go.Proofs.YtoheblfpjinmnaaGreatDoor
namespace Go.Proofs.YtoheblfpjinmnaaGreatDoor
open Go.RowKit
attribute [local go_sem] AllFrom.cons_eq AllFrom.nil_eq putF_nil putF_cons wantedL_none wantedL_some OpGoalT OpGoalS OpGoalP OpGoalV YieldsR preF_nil preF_cons
variable {vL vB : Value}
def RepZS (vL vB : Value) (w : World) (q : Nat) (l : Sl) (F : List Nat) : Prop :=
 ∃ vg vl,w.heap[q]? = some (.cells #[vg,vl,vL,vB] 92 (0,0)) ∧ w.ownsRow 0 3 1 vg l.length (ints (gensS l)) ∧ w.ownsRow 0 4 1 vl l.length (bools (livesS l)) ∧
  F = q :: (vg.ownBlock.toList ++ vl.ownBlock.toList) ∧ F.Nodup
theorem RepZS.mod {w w' : World} {q : Nat} {l : Sl} {F G : List Nat} (h : RepZS vL vB w q l F) (hm : Mod G w w') (hd : ∀ k ∈ F,k ∉ G) : RepZS vL vB w' q l F:=by
 obtain ⟨vg,vl,h1,h2,h3,rfl,h4⟩:=h
 exact ⟨vg,vl,hm.keep h1 (hd q (by simp)),row_mod h2 hm (fun k hk => hd k (by simp [hk])),row_mod h3 hm (fun k hk => hd k (by simp [hk])),rfl,h4⟩
theorem RepZS.lt {w : World} {p : Nat} {l : Sl} {F : List Nat} (h : RepZS vL vB w p l F) : ∀ k ∈ F,k < w.heap.size:=by
 obtain ⟨vg,vl,h1,h2,h3,rfl,h4⟩:=h
 intro k hk
 rcases List.mem_cons.1 hk with rfl | hk
 ·exact blk_lt h1
 ·rcases List.mem_append.1 hk with hk | hk
  ·exact row_lt h2 k (by simpa using hk)
  ·exact row_lt h3 k (by simpa using hk)
end Go.Proofs.YtoheblfpjinmnaaGreatDoor
namespace Go.Proofs.YtoheblfpjinmnaaGreatDoor
open Go Go.RowKit
variable {vB : Value}
attribute [local go_sem] AllFrom.cons_eq AllFrom.nil_eq putF_nil putF_cons wantedL_none wantedL_some OpGoalT OpGoalV OpGoalQ YieldsR preF_nil preF_cons
def RepZ (vB : Value) (w : World) (q : Nat) (sl : Sl) (L : List Rw) (F : List Nat) : Prop :=
 ∃ vL FS,RepZS vL vB w q sl FS ∧ w.ownsRow 0 51 11 vL L.length (L.flatMap rwC) ∧ F = FS ++ vL.ownBlock.toList ∧ F.Nodup
theorem RepZ.mod {w w' : World} {q : Nat} {sl : Sl} {L : List Rw} {F G : List Nat} (h : RepZ vB w q sl L F) (hm : Mod G w w') (hd : ∀ k ∈ F,k ∉ G) : RepZ vB w' q sl L F:=by
 obtain ⟨vL,FS,h1,h2,rfl,h3⟩:=h
 exact ⟨vL,FS,h1.mod hm (fun k hk => hd k (by simp [hk])),row_mod h2 hm (fun k hk => hd k (by simp [hk])),rfl,h3⟩
theorem RepZ.below {w w' : World} {q : Nat} {sl : Sl} {L : List Rw} {F : List Nat} (h : RepZ vB w q sl L F) (hb : Below w.heap.size w w') : RepZ vB w' q sl L F:=h.mod (Mod.ofBelow hb) (by simp)
theorem RepZ.lt {w : World} {q : Nat} {sl : Sl} {L : List Rw} {F : List Nat} (h : RepZ vB w q sl L F) : ∀ k ∈ F,k < w.heap.size:=by
 obtain ⟨vL,FS,h1,h2,rfl,h3⟩:=h
 intro k hk
 rcases List.mem_append.1 hk with hk | hk
 ·exact h1.lt k hk
 ·exact row_lt h2 k (by simpa using hk)
theorem RepZ.open_ {w : World} {q : Nat} {sl : Sl} {L : List Rw} {F : List Nat} (h : RepZ vB w q sl L F) : ∃ vg vl A cap,w.heap[q]? = some (.cells #[vg,vl,.slice A L.length cap,vB] 92 (0,0)) ∧ w.ownsRow 0 51 11 (.slice A L.length cap) L.length (L.flatMap rwC):=by
 obtain ⟨vL,FS,⟨vg,vl,h1,-⟩,h2,rfl,h3⟩:=h
 obtain ⟨A,cap,rfl,-,-⟩:=row_slice h2
 exact ⟨vg,vl,A,cap,h1,h2⟩
theorem RepZS.turnL {vL vL' vB : Value} {w w' : World} {q : Nat} {sl : Sl} {F G : List Nat} (h : RepZS vL vB w q sl F) (hm : Mod G w w') (hd : ∀ k ∈ F,k ∉ G) : RepZS vL' vB (w'.setCell ⟨q,2,none⟩ vL') q sl F:=by
 obtain ⟨vg,vl,h1,h2,h3,rfl,h4⟩:=h
 have hq:=hm.keep h1 (hd q (by simp))
 have hM : ∀ v,Mod [q] w' (w'.setCell ⟨q,2,none⟩ v):=fun v => (Mod.refl _ _).setCell (.inl (by simp)) v
 have hne : ∀ k ∈ vg.ownBlock.toList ++ vl.ownBlock.toList,k ≠ q:=by
  rintro k hk rfl
  rw [List.nodup_cons] at h4
  exact h4.1 hk
 refine ⟨vg,vl,?_,?_,?_,rfl,h4⟩
 ·rw [blk_set hq 2 _];rfl
 ·exact row_mod (row_mod h2 hm (fun k hk => hd k (by simp [hk]))) (hM _) (fun k hk h => hne k (by simp [hk]) (by simpa using h))
 ·exact row_mod (row_mod h3 hm (fun k hk => hd k (by simp [hk]))) (hM _) (fun k hk h => hne k (by simp [hk]) (by simpa using h))
def atI (L : List Rw) (h : Hd) : Int:=match idxL L h with | some i => (i : Int) | none => -1
theorem atI_some {L : List Rw} {h : Hd} {i : Nat} (hi : idxL L h = some i) : atI L h = (i : Int):=by unfold atI;rw [hi]
theorem atI_none {L : List Rw} {h : Hd} (hi : idxL L h = none) : atI L h = -1:=by unfold atI;rw [hi]
set_option maxRecDepth 20000 in
set_option maxHeartbeats 2000000 in
theorem at_any {w : World} {q : Nat} {sl : Sl} {L : List Rw} {F : List Nat} (h : RepZ vB w q sl L F) (hl : L.length ≤ 60) (s g : Int) :
  Calls Tryz.prog 62 #[.pointer (some ⟨q,0,none⟩),.agg #[.int .i64 s,.int .i64 g]] w (fun e w' => e = .returned (.int .i64 (atI L (s,g))) ∧ Below w.heap.size w w'):=by
 obtain ⟨vg,vl,A,cap,hq,hrow⟩:=h.open_
 have c2:=blk_cell hq 2
 simp only [eA,eZ,eS] at c2
 have hql:=blk_lt hq
 clear h hq
 go_enter Tryz.func62,Tryz.ntmps62
 go_wp2
 go_loopw [12] (fun i wr => ∃ k : Nat,k ≤ L.length ∧ i = .int .i64 k ∧ (∀ j (h : j < L.length),j < k → ¬ L[j].1 = (s,g)) ∧ Below (w.heap.size + 1) (w.alloc (.cells #[.int .i64 s,.int .i64 g] 46)) wr) (fun i _ => L.length - (Go.RowKit.intOf i).toNat)
 case atStart => exact ⟨0,by omega,rfl,fun j h => by omega,Below.refl _ _⟩
 case round =>
  obtain ⟨k,hk,rfl,hno,hbel⟩:=hrel
  have hsz:=hbel.size
  simp only [World.size_alloc] at hsz
  have hsz2 : w.heap.size < wr.heap.size:=hsz
  have hb0 : Below w.heap.size w wr:=((Below.refl w.heap.size w).alloc (Nat.le_refl _) _).trans (hbel.mono (by omega))
  have d0 : wr.cell? ⟨w.heap.size,0,none⟩ = some (.int .i64 s):=(hbel.cell (p:=⟨w.heap.size,0,none⟩) (by simp)).trans (by simp)
  have d1 : wr.cell? ⟨w.heap.size,1,none⟩ = some (.int .i64 g):=(hbel.cell (p:=⟨w.heap.size,1,none⟩) (by simp)).trans (by simp)
  by_cases hlt : k < L.length
  ·have hro : wr.ownsRow 0 51 11 (.slice A L.length cap) L.length (L.flatMap rwC):=row_mod hrow (Mod.ofBelow hb0) (by simp)
   obtain ⟨g0,cap0,cur0,hv,-,-,-⟩:=row_some hro (by omega)
   cases hv
   have hpc:=row_piece rwC_len hro hlt 0 (rwC L[k]) (fun j u hu => by rw [Nat.zero_add];exact hu)
   have hg0:=row_lt hro g0 rfl
   have hki : (k : Int) < (L.length : Int):=by omega
   have hyes : L[k].1 = (s,g) → atI L (s,g) = (k : Int):=by
    intro e
    refine atI_some (fi_some hlt (by simpa using e) fun j hj => ?_)
    have:=hno j (by omega) hj
    simpa using this
   have hgo : ¬ L[k].1 = (s,g) → ∀ j (h : j < L.length),j < k + 1 → ¬ L[j].1 = (s,g):=by
    intro e j h1 h2
    rcases Nat.lt_or_eq_of_le (Nat.lt_succ_iff.1 h2) with h3 | rfl
    ·exact hno j h1 h3
    ·exact e
   clear hno
   generalize L[k] = x at *
   obtain ⟨⟨s1,g1⟩,K,a0,a1,a2,a3,a4,a5,a6,a7⟩:=x
   obtain ⟨HP,Hyes,Hgo,Hb,Hb0,HR⟩:=hid6 hpc hyes hgo hbel hb0 hrow
   have he:=fun w => eqlHandle w s1 g1 s g
   clear hpc hyes hgo hbel hb0 hro hrow
   generalize hr : eqB (s1,g1) (s,g) = r at *
   have Hr:=Lib.hid hr
   clear hr
   cases r with
   | true =>
    have H:=Lib.hid (Hyes.out (by simpa [eqB] using Hr.out))
    go_wp2_with (refine wpList_load_flat rfl 51 (.tmp 15) rfl _ rfl [.int .i64 s1,.int .i64 g1,.int .i64 K,.int .i64 a0,.int .i64 a1,.int .i64 a2,.int .i64 a3,.int .i64 a4,.int .i64 a5,.int .i64 a6,.int .i64 a7] _ Tryz.underlying51 rfl (by kernel_rfl) HP.out ?_)
    go_ret
    exact ⟨by rw [H.out];rfl,Hb0.out.alloc (by omega) _⟩
   | false =>
    have H:=Lib.hid (Hgo.out (by simpa [eqB] using Hr.out))
    go_wp2_with (refine wpList_load_flat rfl 51 (.tmp 15) rfl _ rfl [.int .i64 s1,.int .i64 g1,.int .i64 K,.int .i64 a0,.int .i64 a1,.int .i64 a2,.int .i64 a3,.int .i64 a4,.int .i64 a5,.int .i64 a6,.int .i64 a7] _ Tryz.underlying51 rfl (by kernel_rfl) HP.out ?_)
    go_roundw
    case rel => exact ⟨k + 1,by omega,by go_num,H.out,Hb.out.alloc (by omega) _⟩
    case measure => simp [Go.RowKit.intOf];omega
  ·have hf : atI L (s,g) = -1:=atI_none (fi_none fun j hj => by have:=hno j hj (by omega);simpa using this)
   have H:=Lib.hid hf
   clear hf hno hrow
   go_wp2
   go_ret
   exact ⟨by rw [H.out];rfl,hb0⟩
end Go.Proofs.YtoheblfpjinmnaaGreatDoor
namespace Go.Proofs.YtoheblfpjinmnaaGreatDoor
open Go Go.RowKit
variable {vB : Value}
attribute [local go_sem] AllFrom.cons_eq AllFrom.nil_eq putF_nil putF_cons wantedL_none wantedL_some OpGoalT OpGoalV OpGoalQ YieldsR preF_nil preF_cons
end Go.Proofs.YtoheblfpjinmnaaGreatDoor
namespace Go.Proofs.YtoheblfpjinmnaaGreatDoor
open Go Go.RowKit
variable {vB : Value}
attribute [local go_sem] AllFrom.cons_eq AllFrom.nil_eq putF_nil putF_cons wantedL_none wantedL_some OpGoalT OpGoalV OpGoalQ YieldsR preF_nil preF_cons
section
variable {w w1 : World} {q : Nat} {sl : Sl} {L L' : List Rw} {F : List Nat} {v : Value}
end
end Go.Proofs.YtoheblfpjinmnaaGreatDoor
namespace Go.Proofs.YtoheblfpjinmnaaGreatDoor
open Go Go.RowKit
variable {{vB : Value}}
attribute [local go_sem] AllFrom.cons_eq AllFrom.nil_eq putF_nil putF_cons wantedL_none wantedL_some OpGoalT OpGoalV OpGoalQ YieldsR preF_nil preF_cons
theorem wrapM (z : Int) (h1 : -1000000 ≤ z) (h2 : z ≤ 1000000) : IntKind.i64.wrap z = z:=by
 by_cases h : 0 ≤ z
 ·exact wrapSmall z h h2
 ·have e : z % 2 ^ 64 = z + 2 ^ 64:=by
   rw [← Int.add_emod_right]
   exact Int.emod_eq_of_lt (by omega) (by omega)
  simp only [IntKind.wrap,IntKind.bits,IntKind.signed,e,Bool.true_and,decide_eq_true_eq]
  split <;> omega
theorem powK_any (j : Nat) (hj : j < 8) (w : World) : Calls Tryz.prog 17 #[.int .i64 (j : Int)] w fun e w' => e = .returned (.int .i64 (pw j)) ∧ w = w':=by
 exact power_any j (by omega) w
section
variable {w : World} {q : Nat} {sl : Sl} {L : List Rw} {F : List Nat}
end
end Go.Proofs.YtoheblfpjinmnaaGreatDoor
