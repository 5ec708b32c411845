import Derived.Test.YtfdillpofciicaaGreatDoorTopSavedJ14
import Derived.Test.YtfdillpofciicaaGreatDoorTopSavedJ13
set_option linter.unusedVariables false
set_option linter.unusedSimpArgs false
/- A part of the proof that TopSaved returns true. -/
namespace Go.Proofs.YtfdillpofciicaaGreatDoor
open Go Go.RowKit
def liftTb (tb : List (Nat × Nat)) (k n : Nat) : List (Nat × Nat):=if n = 0 then delPl tb k else tb
theorem liftTb_keys (tb : List (Nat × Nat)) (k n : Nat) : (liftTb tb k n).map (·.1) = liftT (tb.map (·.1)) k n:=by
 unfold liftTb liftT delPl
 split
 ·rw [List.filter_map];rfl
 ·rfl
attribute [local go_sem] AllFrom.cons_eq AllFrom.nil_eq putF_nil putF_cons wantedL_none wantedL_some OpGoalT OpGoalV OpGoalQ OpGoalA YieldsR preF_nil preF_cons
theorem handle_at {w : World} {B : Nat} {A : Option Addr} {n cap : Nat} {hs : List Hd} (h : w.ownsRow B 47 2 (.slice A n cap) hs.length (hs.flatMap handleC)) {k : Nat} {s : Int} {g : Int} (hk : hs[k]? = some (s,g)) :
  ∃ b,A = some ⟨b,0,none⟩ ∧ b < w.heap.size ∧ w.cell? ⟨b,k * 2,none⟩ = some (.int .i64 s):=by
 obtain ⟨hl,he⟩:=List.getElem?_eq_some_iff.1 hk
 obtain ⟨b,cap',he',hcell⟩:=row_rec handleC_len h hl
 cases he'
 exact ⟨b,rfl,row_lt h b rfl,hcell 0 _ (by rw [he];rfl)⟩
section
variable {w : World} {p ps mt mp : Nat} {sl : Sl} {tb : List (Nat × Nat)} {rw : Nat → List Rw} {pl : List Pl} {FS : List Nat} {Fs : Nat → List Nat} {c : Nat → Nat}
theorem lift_fin {w w0 w1 w8 w9 : World} {tb' : List (Nat × Nat)} {tb0 : List (Nat × Nat)} {rw' : Nat → List Rw} {pl' : List Pl} {F FS' : List Nat} {Fs' : Nat → List Nat} {c' : Nat → Nat} (hb0 : Below w.heap.size w w0) (hb01 : Below w0.heap.size w0 w1) (hs : w.heap.size + 1 < w0.heap.size) (hF : ∀ y ∈ F,y < w.heap.size)
  (htb : tb0 = tb') (h : WorldAt w8 p ps mt mp sl tb0 rw' pl' FS' Fs' c') (hT : Turns w1 F (wF p mt mp tb0 FS' Fs') w8) (hm : Mod [w.heap.size + 1] w8 w9) :
  ∃ FS Fs c,WorldAt w9 p ps mt mp sl tb' rw' pl' FS Fs c ∧ Turns w F (wF p mt mp tb' FS Fs) w9:=by
 subst htb
 have hs1:=hb01.size
 have hs0:=hb0.size
 have hb : Below w.heap.size w w1:=hb0.trans (hb01.mono hb0.size)
 refine ⟨FS',Fs',c',h.mod hm (fun y hy e => ?_),((Turns.after hb hT).mod.trans hm (fun x hx => .inr (by simp at hx;omega))),fun y hy => (Turns.after hb hT).new y hy⟩
 simp at e
 subst e
 rcases hT.new _ hy with h1 | h1
 ·have:=hF _ h1;omega
 ·omega
set_option maxRecDepth 20000 in
set_option maxHeartbeats 8000000 in
theorem lift_any (h : WorldAt w p ps mt mp sl tb rw pl FS Fs c) (s : Nat) (g : Int) (kn b i : Nat) (a0 a1 a2 a3 a4 a5 a6 a7 : Int) (hk : (kn,b) ∈ tb) (hkn : kn < 256) (hs : s < 256) (hp : (s,kn,i) ∈ pl)
  (hx : (rw kn)[i]? = some (((s : Int),g),(kn : Int),a0,a1,a2,a3,a4,a5,a6,a7)) (hg : GoodR kn (((s : Int),g),(kn : Int),a0,a1,a2,a3,a4,a5,a6,a7)) (hl : (rw kn).length ≤ 1200000000000)
  (hy : ∀ y,(remL (rw kn) i)[i]? = some y → ∃ s2 v2,s2 < 256 ∧ y.1.1 = ((s2 : Nat) : Int) ∧ (s2,v2) ∈ pl ∧ s2 ≠ s) :
  Calls Tryz.prog 103 #[.pointer (some ⟨p,0,none⟩),.agg #[.int .i64 (s : Int),.int .i64 g]] w
   (WPost p ps mt mp sl (liftTb tb kn (remL (rw kn) i).length) (updL rw kn (remL (rw kn) i)) (liftP pl (remL (rw kn) i) s kn i) (wF p mt mp tb FS Fs) w (.agg #[.int .i64 (kn : Int),.int .i64 a0,.int .i64 a1,.int .i64 a2,.int .i64 a3,.int .i64 a4,.int .i64 a5,.int .i64 a6,.int .i64 a7])):=by
 obtain ⟨w0,hw0⟩ : ∃ w0,(w.alloc (.cells #[.int .i64 (s : Int),.int .i64 g] 47)).alloc (.cells #[.int .i64 0,.int .i64 0,.int .i64 0,.int .i64 0,.int .i64 0,.int .i64 0,.int .i64 0,.int .i64 0,.int .i64 0] 45) = w0:=⟨_,rfl⟩
 have hb0 : Below w.heap.size w w0:=by rw [← hw0];exact ((Below.refl _ _).alloc (Nat.le_refl _) _).alloc (by simp) _
 have h0Z0 : w0.heap[w.heap.size]? = some (.cells #[.int .i64 (s : Int),.int .i64 g] 47 (0,0)):=by rw [← hw0];exact blk_alloc (heap_alloc_new w _) _
 have h0Z1 : w0.heap[w.heap.size + 1]? = some (.cells #[.int .i64 0,.int .i64 0,.int .i64 0,.int .i64 0,.int .i64 0,.int .i64 0,.int .i64 0,.int .i64 0,.int .i64 0] 45 (0,0)):=by
  rw [← hw0];have:=heap_alloc_new (w.alloc (.cells #[.int .i64 (s : Int),.int .i64 g] 47)) (.cells #[.int .i64 0,.int .i64 0,.int .i64 0,.int .i64 0,.int .i64 0,.int .i64 0,.int .i64 0,.int .i64 0,.int .i64 0] 45);simpa using this
 have hs0 : w0.heap.size = w.heap.size + 2:=by rw [← hw0];simp
 have h0:=h.below hb0
 have hlk:=mi_in plPr_keys Tryz.underlying113 (h0.below below_drew).pm hs hp false
 have hlk2:=mi_in plPr_keys Tryz.underlying113 (h0.below ((Below.refl _ w0).alloc (Nat.le_refl _) (.cells #[.int .i64 0,.int .i64 0] 185)).drew).pm hs hp false
 simp only [plPr,Bool.false_eq_true,if_false] at hlk hlk2
 have e0:=blk_cell h0.blk 2
 simp only [eA,eZ,eS] at e0
 have hpl:=blk_lt h0.blk
 obtain ⟨q0,q1,ql⟩:=cells2 h0Z0
 have hltw:=h.lt
 have h1Z2 : (w0.alloc (.cells #[.int .i64 (kn : Int),.int .i64 (i : Int)] 185)).drew.heap[w0.heap.size]? = some (.cells #[.int .i64 (kn : Int),.int .i64 (i : Int)] 185 (0,0)):=blk_drew (heap_alloc_new w0 _)
 obtain ⟨w1,hw1⟩ : ∃ w1,(w0.alloc (.cells #[.int .i64 (kn : Int),.int .i64 (i : Int)] 185)).drew = w1:=⟨_,rfl⟩
 rw [hw1] at h1Z2
 have hb01 : Below w0.heap.size w0 w1:=by rw [← hw1];exact ((Below.refl _ w0).alloc (Nat.le_refl _) _).drew
 have H:=Lib.hid h;have H0Z0:=Lib.hid h0Z0;have H0Z1:=Lib.hid h0Z1;have H0:=Lib.hid h0;have Hltw:=Lib.hid hltw;have Hs:=Lib.hid hs;have Hp:=Lib.hid hp;have Hb0:=Lib.hid hb0;have Hb01:=Lib.hid hb01;have Hk:=Lib.hid hk;have H1Z2:=Lib.hid h1Z2;have Hg:=Lib.hid hg;have Hy:=Lib.hid hy;have Hl:=Lib.hid hl;have Hx:=Lib.hid hx;have Hkn:=Lib.hid hkn;have Hw1:=Lib.hid hw1;have Hs0:=Lib.hid hs0
 clear h h0Z0 h0Z1 h0 hltw hs hp hb0 hb01 hk h1Z2 hg hy hl hx hkn hw1 hs0
 go_enter Tryz.func103,Tryz.ntmps103
 go_wp2_with fail
 clear hw0
 refine wp_planA ((w0.alloc (.cells #[.int .i64 0,.int .i64 0] 185)).drew) 7 8 [0] [some 10,some 11,some 12,some 13,some 14,some 15,some 16,some 5,none] [[],[0],[0,1],[0,1,2],[],[4],[0,1,2,3,4,5],[],[0,1,2,3,4,5,6,7]] [0,1,2,3,4,5,6,7] mixed rfl (by kernel_rfl) (by decide) (by decide) (by decide) rfl ?_
 iterate 8 apply Exists.intro
 refine ⟨rfl,?_,?_⟩
 ·simp only [tS,List.take_zero,AllFrom.cons_eq,AllFrom.nil_eq,OpGoalA]
  refine ⟨?_,?_,?_,?_,?_,?_,?_,?_,trivial⟩
  all_goals (intro σ hp;(try simp only [gZ,gS,mC,mN,preF_cons,preF_nil,isV,and_true] at hp);(first | (have hq : True:=hp;clear hq hp) | skip))
  all_goals (go_simp;first | exact ⟨⟨rfl,rfl⟩,⟨rfl,rfl⟩⟩ | exact ⟨rfl,rfl⟩)
 intro σ hp
 simp only [gZ,gS,mC,mN,preF_cons,preF_nil,isV,and_true] at hp
 simp only [dS,List.drop_zero]
 go_simp
 clear hp
 go_wp2_with fail
 rw [Hw1.out]
 refine ⟨rfl,?_⟩
 clear hlk hlk2 e0 hpl q0 q1 ql
 have h1Z0:=(Mod.ofBelow Hb01.out).keep H0Z0.out (by simp)
 have h1Z1:=(Mod.ofBelow Hb01.out).keep H0Z1.out (by simp)
 have h1Z2:=H1Z2.out
 have h1:=H0.out.below Hb01.out
 have hlk:=mi_in colPr_keys Tryz.underlying112 (h1.below below_drew).tm Hkn.out Hk.out false
 simp only [colPr,Bool.false_eq_true,if_false] at hlk
 have e1:=blk_cell h1.blk 1
 simp only [eA,eZ,eS] at e1
 have hpl:=blk_lt h1.blk
 have hl0:=blk_lt h1Z0
 have hl1:=blk_lt h1Z1
 obtain ⟨u0,u1,ul⟩:=cells2 h1Z2
 have h3:=rt_rem ((h1.below below_drew).tab _ Hk.out) Hx.out Hg.out Hl.out
 have h1lt : w0.heap.size < w1.heap.size:=blk_lt h1Z2
 obtain ⟨H1Z0,H1Z1,H1Y2,H1,H3⟩:=hid5 h1Z0 h1Z1 h1Z2 h1 h3
 clear h1Z0 h1Z1 h1Z2 h1 h3
 go_wp2_with fail
 refine wp_planR 8 [0] [some 17,some 18,some 19,some 20,some 21,some 22,some 23,some 6] [[],[0],[0,1],[0,1,2],[],[4],[0,1,2,3,4,5],[0,1,2,3,4,5,6]] [0,1,2,3,4,5,6,7] mixed rfl (by kernel_rfl) (by decide) (by decide) rfl ?_
 iterate 8 apply Exists.intro
 refine ⟨rfl,?_,?_⟩
 ·simp only [tS,List.take_zero,AllFrom.cons_eq,AllFrom.nil_eq,OpGoalQ]
  refine ⟨?_,?_,?_,?_,?_,?_,?_,?_,trivial⟩
  all_goals (intro σ hp;(try simp only [gZ,gS,mC,mN,preF_cons,preF_nil,isV,and_true] at hp);(first | (have hq : True:=hp;clear hq hp) | skip))
  all_goals (go_simp;exact ⟨rfl,rfl⟩)
 intro σ hp
 simp only [gZ,gS,mC,mN,preF_cons,preF_nil,isV,and_true] at hp
 simp only [dS,List.drop_zero]
 go_simp
 clear hp
 refine ⟨rfl,?_⟩
 go_wp2_with fail
 refine H3.out.mono ?_
 rintro e w2 ⟨rfl,F2,ht2,htu⟩
 obtain ⟨h2,hT2⟩:=(H1.out.below below_drew).turnTab Hk.out ht2 htu
 have hTa:=(Turns.ofBelow (F:=wF p mt mp tb FS Fs) (below_drew (w:=w1))).trans hT2
 have hd2 : ∀ y,w.heap.size ≤ y → y ∉ Fs kn:=fun y hy e => by have:=Hltw.out y (mem_wF.2 (.inr (.inr (.inr (.inr ⟨_,Hk.out,e⟩)))));omega
 have hs0:=Hs0.out
 have h2Z0:=htu.mod.keep (blk_drew H1Z0.out) (hd2 _ (Nat.le_refl _))
 have h2Z1:=htu.mod.keep (blk_drew H1Z1.out) (hd2 _ (by omega))
 have h2Z2:=htu.mod.keep (blk_drew H1Y2.out) (hd2 _ (by omega))
 have hlw2 : w0.heap.size < w2.heap.size:=blk_lt h2Z2
 obtain ⟨w3,hw3⟩ : ∃ w3,w3 = w2.alloc (.cells #[.int .i64 (s : Int),.int .i64 g,.int .i64 (kn : Int),.int .i64 a0,.int .i64 a1,.int .i64 a2,.int .i64 a3,.int .i64 a4,.int .i64 a5,.int .i64 a6,.int .i64 a7] 56):=⟨_,rfl⟩
 have hb23 : Below w2.heap.size w2 w3:=by rw [hw3];exact (Below.refl _ _).alloc (Nat.le_refl _) _
 have h3Z3 : w3.heap[w2.heap.size]? = some (.cells #[.int .i64 (s : Int),.int .i64 g,.int .i64 (kn : Int),.int .i64 a0,.int .i64 a1,.int .i64 a2,.int .i64 a3,.int .i64 a4,.int .i64 a5,.int .i64 a6,.int .i64 a7] 56 (0,0)):=by rw [hw3];exact heap_alloc_new _ _
 obtain ⟨rows,hrows⟩ : ∃ rows,rows = remL (rw kn) i:=⟨_,rfl⟩
 have hy2:=Hy.out
 rw [← hrows] at h2 ht2 hy2
 rw [← hrows]
 have hlr : rows.length ≤ 1200000000000:=by rw [hrows,remL_length];have:=Hl.out;omega
 have h4:=rt_handles (ht2.mod (Mod.ofBelow hb23) (by simp)) hlr
 have HO:=Lib.hid (rwC_one (((s : Int),g),(kn : Int),a0,a1,a2,a3,a4,a5,a6,a7))
 have hlr2 : rows.length ≤ 9223372036854775807:=by omega
 obtain ⟨H2,HTa,H2Z0,H2Z1,H2Z2,Hw3,Hb23,H3Z3,Hrows,HY,Hlr,HS0,H4⟩:=hid13 h2 hTa h2Z0 h2Z1 h2Z2 hw3 hb23 h3Z3 hrows hy2 hlr hs0 h4
 clear h2 hTa h2Z0 h2Z1 h2Z2 hw3 hb23 h3Z3 hrows hy2 hlr hs0 h4
 clear ht2 htu hT2 hd2 hlk e1 hpl u0 u1 ul
 go_wp2_with (refine wpList_store_new rfl 56 (.tmp 7) (.tmp 29) rfl w2 (ints [0,0,0,0,0,0,0,0,0,0,0]) (rwC (((s : Int),g),(kn : Int),a0,a1,a2,a3,a4,a5,a6,a7)) 56 rfl rfl rfl (sz_Row _) HO.out ?_;rw [show (rwC (((s : Int),g),(kn : Int),a0,a1,a2,a3,a4,a5,a6,a7)).toArray = #[.int .i64 (s : Int),.int .i64 g,.int .i64 (kn : Int),.int .i64 a0,.int .i64 a1,.int .i64 a2,.int .i64 a3,.int .i64 a4,.int .i64 a5,.int .i64 a6,.int .i64 a7] from rfl,← Hw3.out])
 refine H4.out.mono ?_
 rintro e w4 ⟨v4,rfl,hown4,hb34⟩
 have hb24 : Below w2.heap.size w2 w4:=Hb23.out.trans (hb34.mono Hb23.out.size)
 have h4Z0:=(Mod.ofBelow hb24).keep H2Z0.out (by simp)
 have h4Z1:=(Mod.ofBelow hb24).keep H2Z1.out (by simp)
 have h4Z2:=(Mod.ofBelow hb24).keep H2Z2.out (by simp)
 have h4Z3:=(Mod.ofBelow hb34).keep H3Z3.out (by simp)
 obtain ⟨A4,c4,rfl,hc4,-⟩:=row_slice hown4
 rw [List.length_map] at hc4
 have h4w:=H2.out.below hb24
 have hTb:=HTa.out.below hb24
 obtain ⟨q0,q1,ql⟩:=cells2 h4Z0
 obtain ⟨u0,u1,ul⟩:=cells2 h4Z2
 have e1:=blk_cell h4w.blk 1
 have e2:=blk_cell h4w.blk 2
 simp only [eA,eZ,eS] at e1 e2
 have hpl:=blk_lt h4w.blk
 have hl34:=blk_lt h4Z3
 obtain ⟨H4Z0,H4Z1,H4Z2,H4Z3,H4w,HTb,Hown4⟩:=hid7 h4Z0 h4Z1 h4Z2 h4Z3 h4w hTb hown4
 clear h4Z0 h4Z1 h4Z2 h4Z3 h4w hTb hown4
 clear hb34 hb24
 have hno : ∀ y,y ∈ wF p mt mp tb FS Fs → ∀ z,w.heap.size ≤ z → z ∉ [y]:=fun y hy z hz e => by simp at e;subst e;have:=Hltw.out _ hy;omega
 have HNo:=Lib.hid hno
 clear hno
 rcases (show i < rows.length ∨ (rows.length ≤ i ∧ 0 < rows.length) ∨ rows.length = 0 by omega) with hA | ⟨hB,hpos⟩ | hB
 case' inl =>
  obtain ⟨y,hyy⟩ : ∃ y,rows[i]? = some y:=⟨_,List.getElem?_eq_getElem hA⟩
  obtain ⟨s2,v2,hs2,hys,hm2,hne⟩:=HY.out y hyy
  have hy3 : (rows.map (·.1))[i]? = some ((s2 : Int),y.1.2):=by rw [List.getElem?_map,hyy,← hys];rfl
  have hown4:=Hown4.out
  rw [List.length_map] at hown4
  obtain ⟨b4,hA4,hb4,hcell⟩:=handle_at (n:=rows.length) (by rw [List.length_map];exact hown4) hy3
  subst hA4
  have hAi : (i : Int) < (rows.length : Int):=by omega
  obtain ⟨w5,hrun,hmap,hmod,hsz⟩:=mi_set plPr_keys Tryz.underlying113 (H4w.out.below below_drew).pm hs2 hm2 (kn,i)
  simp only [plPr] at hrun
  obtain ⟨h5,hT5⟩:=(H4w.out.below below_drew).turnPl hmap hmod
  have hTc:=(HTb.out.trans (Turns.ofBelow below_drew)).trans hT5
  have hmm:=HNo.out mp (mem_wF.2 (.inr (.inr (.inl rfl))))
  have hs0:=HS0.out
  have h5Z0:=hmod.keep (blk_drew H4Z0.out) (hmm _ (Nat.le_refl _))
  have h5Z1:=hmod.keep (blk_drew H4Z1.out) (hmm _ (by omega))
  have h5Z2:=hmod.keep (blk_drew H4Z2.out) (hmm _ (by omega))
  have h5Z3:=hmod.keep (blk_drew H4Z3.out) (hmm _ (by omega))
  have hpl5 : (s,kn,i) ∈ setPl pl s2 (kn,i):=mem_setPl.2 (.inl ⟨Hp.out,fun e => hne e.symm⟩)
  have hlp : delPl (setPl pl s2 (kn,i)) s = liftP pl rows s kn i:=by unfold liftP;rw [hyy];simp only;rw [hys,Int.toNat_natCast]
  have htb : tb = liftTb tb kn rows.length:=by unfold liftTb;rw [if_neg (by omega)]
  have h6:=rt_handles (rows:=rows) (by have:=h5.tab _ Hk.out;simp only [updL_same] at this;exact this) Hlr.out
  have hz0 : decide (rows = []) = false:=by rw [decide_eq_false_iff_not];intro e;rw [e] at hA;simp at hA
  have hz1 : ((rows.length : Int) == 0) = false:=by rw [beq_eq_false_iff_ne];omega
  obtain ⟨H5,HTc,H5Z0,H5Z1,H5Z2,H5Z3,Hpl5,Hlp,Htb,H6,HS0b⟩:=hid11 h5 hTc h5Z0 h5Z1 h5Z2 h5Z3 hpl5 hlp htb h6 hs0
  clear h5 hTc h5Z0 h5Z1 h5Z2 h5Z3 hpl5 hlp htb h6 hs0
  clear hy3 hmap hmod hT5 hmm hyy hys hm2 hne hs2 hsz hown4
  go_wp2_with fail
  refine wp_planR 11 [0,4] [some 38,some 39,some 40,some 41,some 42,some 43,some 44,some 45,some 46,some 47,some 48,none] [[],[0],[0,1],[0,1,2],[],[],[5],[4,5,6],[4,5,6,7],[4,5,6,7,8],[],[0,1,2,3,4,5,6,7,8,9,10]] [0,1,2,3,4,5,6,7,8,9,10] mixed rfl (by kernel_rfl) (by decide) (by decide) rfl ?_
  iterate 11 apply Exists.intro
  refine ⟨rfl,?_,?_⟩
  ·simp only [tS,List.take_zero,AllFrom.cons_eq,AllFrom.nil_eq,OpGoalQ]
   refine ⟨?_,?_,?_,?_,?_,?_,?_,?_,?_,?_,?_,trivial⟩
   all_goals (intro σ hp;(try simp only [gZ,gS,mC,mN,preF_cons,preF_nil,isV,and_true] at hp);(first | (have hq : True:=hp;clear hq hp) | skip))
   all_goals (go_simp;exact ⟨rfl,rfl⟩)
  intro σ hp
  simp only [gZ,gS,mC,mN,preF_cons,preF_nil,isV,and_true] at hp
  simp only [dS,List.drop_zero]
  go_simp
  clear hp
  go_wp2
  refine ⟨rfl,?_⟩
  clear hrun hcell e1 e2 hpl q0 q1 ql u0 u1 ul
  go_wp2_with fail
  refine H6.out.mono ?_
  rintro e w6 ⟨v6,rfl,hown6,hb56⟩
  obtain ⟨A6,c6,rfl,hc6,-⟩:=row_slice hown6
  rw [List.length_map] at hc6
  clear hown6
  have h6Z0:=(Mod.ofBelow hb56).keep H5Z0.out (by simp)
  have h6Z1:=(Mod.ofBelow hb56).keep H5Z1.out (by simp)
  have h6Z3:=(Mod.ofBelow hb56).keep H5Z3.out (by simp)
  have h6w:=H5.out.below hb56
  have hTd:=HTc.out.below hb56
  clear hb56
  have e2:=blk_cell h6w.blk 2
  simp only [eA,eZ,eS] at e2
  have hpl:=blk_lt h6w.blk
  obtain ⟨q0,q1,ql⟩:=cells2 h6Z0
  obtain ⟨w8,hrun,hmap,hmod,hsz⟩:=mi_del (ty:=0) plPr_keys Tryz.underlying113 (h6w.below below_drew).pm Hs.out Hpl5.out
  obtain ⟨h8,hT8⟩:=(h6w.below below_drew).turnPl hmap hmod
  have hTe:=(hTd.trans (Turns.ofBelow below_drew)).trans hT8
  have hmm:=HNo.out mp (mem_wF.2 (.inr (.inr (.inl rfl))))
  have hs0:=HS0.out
  have h8Z1:=hmod.keep (blk_drew h6Z1) (hmm _ (by omega))
  have h8Z3:=hmod.keep (blk_drew h6Z3) (hmm _ (by omega))
  rw [Hlp.out] at h8
  have HFin:=Lib.hid (fun w9 (hm : Mod [w.heap.size + 1] w8 w9) => lift_fin Hb0.out Hb01.out (by have:=HS0.out;omega) Hltw.out Htb.out h8 hTe hm)
  obtain ⟨r0,r1,r2,r3,r4,r5,r6,r7,r8,rl⟩:=cells9 h8Z1
  obtain ⟨v0,v1,v2,v3,v4,v5,v6,v7,v8,v9,v10,vl⟩:=cells11 h8Z3
  have f0:=blk_free h8Z1 0
  have f1:=blk_free h8Z1 1
  have f2:=blk_free h8Z1 2
  have f3:=blk_free h8Z1 3
  have f4:=blk_free h8Z1 4
  have f5:=blk_free h8Z1 5
  have f6:=blk_free h8Z1 6
  have f7:=blk_free h8Z1 7
  have f8:=blk_free h8Z1 8
  have n1 : w2.heap.size ≠ w.heap.size + 1:=by omega
  have n2 : w.heap.size + 1 ≠ w2.heap.size:=by omega
  clear h6Z0 h6Z1 h6Z3 h6w hTd hmap hmod h8 hT8 hTe hmm hs0 h8Z1 h8Z3 hsz
  go_wp2_with fail
  refine wp_planR 6 [0] [some 59,some 60,some 61,some 62,some 63,some 64,none] [[],[0],[0,1],[0,1,2],[],[4],[0,1,2,3,4,5]] [0,1,2,3,4,5] mixed rfl (by kernel_rfl) (by decide) (by decide) rfl ?_
  iterate 6 apply Exists.intro
  refine ⟨rfl,?_,?_⟩
  ·simp only [tS,List.take_zero,AllFrom.cons_eq,AllFrom.nil_eq,OpGoalQ]
   refine ⟨?_,?_,?_,?_,?_,?_,trivial⟩
   all_goals (intro σ hp;(try simp only [gZ,gS,mC,mN,preF_cons,preF_nil,isV,and_true] at hp);(first | (have hq : True:=hp;clear hq hp) | skip))
   all_goals (go_simp;exact ⟨rfl,rfl⟩)
  intro σ hp
  simp only [gZ,gS,mC,mN,preF_cons,preF_nil,isV,and_true] at hp
  simp only [dS,List.drop_zero]
  go_simp
  clear hp
  go_wp2
  refine ⟨rfl,?_⟩
  clear hrun e2 hpl q0 q1 ql
  go_wp2
  refine bodyPost_ret (v:=.agg #[.int .i64 (kn : Int),.int .i64 a0,.int .i64 a1,.int .i64 a2,.int .i64 a3,.int .i64 a4,.int .i64 a5,.int .i64 a6,.int .i64 a7]) (by unfold results;try go_simp) rfl ?_
  refine ⟨rfl,?_⟩
  rw [← Hrows.out]
  refine HFin.out _ ?_
  repeat (refine Mod.setCell ?_ (.inl (by simp)) _)
  exact Mod.refl _ _
 case' inr.inl =>
  have hz0 : decide (rows = []) = false:=by rw [decide_eq_false_iff_not];intro e;rw [e] at hpos;simp at hpos
  have hz1 : ((rows.length : Int) == 0) = false:=by rw [beq_eq_false_iff_ne];omega
  have hBi : (rows.length : Int) ≤ (i : Int):=by omega
  have hBn : decide (i < rows.length) = false:=by simp;omega
  have hlp : delPl pl s = liftP pl rows s kn i:=by unfold liftP;rw [List.getElem?_eq_none (by omega)]
  have htb : tb = liftTb tb kn rows.length:=by unfold liftTb;rw [if_neg (by omega)]
  have h6:=rt_handles (rows:=rows) (by have:=H4w.out.tab _ Hk.out;simp only [updL_same] at this;exact this) Hlr.out
  obtain ⟨Hlp,Htb,H6⟩:=hid3 hlp htb h6
  clear hlp htb h6
  clear hpos
  go_wp2_with fail
  refine H6.out.mono ?_
  rintro e w6 ⟨v6,rfl,hown6,hb56⟩
  obtain ⟨A6,c6,rfl,hc6,-⟩:=row_slice hown6
  rw [List.length_map] at hc6
  clear hown6
  have h6Z0:=(Mod.ofBelow hb56).keep H4Z0.out (by simp)
  have h6Z1:=(Mod.ofBelow hb56).keep H4Z1.out (by simp)
  have h6Z3:=(Mod.ofBelow hb56).keep H4Z3.out (by simp)
  have h6w:=H4w.out.below hb56
  have hTd:=HTb.out.below hb56
  clear hb56 e1 e2 hpl q0 q1 ql u0 u1 ul
  have e2:=blk_cell h6w.blk 2
  simp only [eA,eZ,eS] at e2
  have hpl:=blk_lt h6w.blk
  obtain ⟨q0,q1,ql⟩:=cells2 h6Z0
  obtain ⟨w8,hrun,hmap,hmod,hsz⟩:=mi_del (ty:=0) plPr_keys Tryz.underlying113 (h6w.below below_drew).pm Hs.out Hp.out
  obtain ⟨h8,hT8⟩:=(h6w.below below_drew).turnPl hmap hmod
  have hTe:=(hTd.trans (Turns.ofBelow below_drew)).trans hT8
  have hmm:=HNo.out mp (mem_wF.2 (.inr (.inr (.inl rfl))))
  have hs0:=HS0.out
  have h8Z1:=hmod.keep (blk_drew h6Z1) (hmm _ (by omega))
  have h8Z3:=hmod.keep (blk_drew h6Z3) (hmm _ (by omega))
  rw [Hlp.out] at h8
  have HFin:=Lib.hid (fun w9 (hm : Mod [w.heap.size + 1] w8 w9) => lift_fin Hb0.out Hb01.out (by have:=HS0.out;omega) Hltw.out Htb.out h8 hTe hm)
  obtain ⟨r0,r1,r2,r3,r4,r5,r6,r7,r8,rl⟩:=cells9 h8Z1
  obtain ⟨v0,v1,v2,v3,v4,v5,v6,v7,v8,v9,v10,vl⟩:=cells11 h8Z3
  have f0:=blk_free h8Z1 0
  have f1:=blk_free h8Z1 1
  have f2:=blk_free h8Z1 2
  have f3:=blk_free h8Z1 3
  have f4:=blk_free h8Z1 4
  have f5:=blk_free h8Z1 5
  have f6:=blk_free h8Z1 6
  have f7:=blk_free h8Z1 7
  have f8:=blk_free h8Z1 8
  have n1 : w2.heap.size ≠ w.heap.size + 1:=by omega
  have n2 : w.heap.size + 1 ≠ w2.heap.size:=by omega
  clear h6Z0 h6Z1 h6Z3 h6w hTd hmap hmod h8 hT8 hTe hmm hs0 h8Z1 h8Z3 hsz
  go_wp2_with fail
  refine wp_planR 6 [0] [some 59,some 60,some 61,some 62,some 63,some 64,none] [[],[0],[0,1],[0,1,2],[],[4],[0,1,2,3,4,5]] [0,1,2,3,4,5] mixed rfl (by kernel_rfl) (by decide) (by decide) rfl ?_
  iterate 6 apply Exists.intro
  refine ⟨rfl,?_,?_⟩
  ·simp only [tS,List.take_zero,AllFrom.cons_eq,AllFrom.nil_eq,OpGoalQ]
   refine ⟨?_,?_,?_,?_,?_,?_,trivial⟩
   all_goals (intro σ hp;(try simp only [gZ,gS,mC,mN,preF_cons,preF_nil,isV,and_true] at hp);(first | (have hq : True:=hp;clear hq hp) | skip))
   all_goals (go_simp;exact ⟨rfl,rfl⟩)
  intro σ hp
  simp only [gZ,gS,mC,mN,preF_cons,preF_nil,isV,and_true] at hp
  simp only [dS,List.drop_zero]
  go_simp
  clear hp
  go_wp2
  refine ⟨rfl,?_⟩
  clear hrun e2 hpl q0 q1 ql
  go_wp2
  refine bodyPost_ret (v:=.agg #[.int .i64 (kn : Int),.int .i64 a0,.int .i64 a1,.int .i64 a2,.int .i64 a3,.int .i64 a4,.int .i64 a5,.int .i64 a6,.int .i64 a7]) (by unfold results;try go_simp) rfl ?_
  refine ⟨rfl,?_⟩
  rw [← Hrows.out]
  refine HFin.out _ ?_
  repeat (refine Mod.setCell ?_ (.inl (by simp)) _)
  exact Mod.refl _ _
 case' inr.inr =>
  obtain rfl : rows = []:=List.eq_nil_of_length_eq_zero hB
  have hBi : (0 : Int) ≤ (i : Int):=by omega
  have hlp : delPl pl s = liftP pl [] s kn i:=by unfold liftP;rfl
  have htb : delPl tb kn = liftTb tb kn ([] : List Rw).length:=rfl
  have h6:=rt_handles (rows:=[]) (by have:=H4w.out.tab _ Hk.out;simp only [updL_same] at this;exact this) Hlr.out
  obtain ⟨Hlp,Htb,H6⟩:=hid3 hlp htb h6
  clear hlp htb h6
  clear hB
  go_wp2_with fail
  refine H6.out.mono ?_
  rintro e w5 ⟨v6,rfl,hown6,hb56⟩
  obtain ⟨A6,c6,rfl,hc6,-⟩:=row_slice hown6
  clear hown6
  have h5Z0:=(Mod.ofBelow hb56).keep H4Z0.out (by simp)
  have h5Z1:=(Mod.ofBelow hb56).keep H4Z1.out (by simp)
  have h5Z2:=(Mod.ofBelow hb56).keep H4Z2.out (by simp)
  have h5Z3:=(Mod.ofBelow hb56).keep H4Z3.out (by simp)
  have h5w:=H4w.out.below hb56
  have hTc:=HTb.out.below hb56
  clear hb56 e1 e2 hpl q0 q1 ql u0 u1 ul
  have e1:=blk_cell h5w.blk 1
  simp only [eA,eZ,eS] at e1
  have hpl:=blk_lt h5w.blk
  obtain ⟨u0,u1,ul⟩:=cells2 h5Z2
  obtain ⟨w6,hrun,hmap,hmod,hsz⟩:=mi_del (ty:=0) colPr_keys Tryz.underlying112 (h5w.below below_drew).tm Hkn.out Hk.out
  obtain ⟨h6w,hT6⟩:=(h5w.below below_drew).delTab hmap hmod
  have hTd:=(hTc.trans (Turns.ofBelow below_drew)).trans hT6
  have hmm:=HNo.out mt (mem_wF.2 (.inr (.inl rfl)))
  have hs0:=HS0.out
  have h6Z0:=hmod.keep (blk_drew h5Z0) (hmm _ (Nat.le_refl _))
  have h6Z1:=hmod.keep (blk_drew h5Z1) (hmm _ (by omega))
  have h6Z3:=hmod.keep (blk_drew h5Z3) (hmm _ (by omega))
  obtain ⟨H6w,HTd,H6Z0,H6Z1,H6Z3,HS0c⟩:=hid6 h6w hTd h6Z0 h6Z1 h6Z3 hs0
  clear h6w hTd h6Z0 h6Z1 h6Z3 hs0
  clear h5Z0 h5Z1 h5Z2 h5Z3 h5w hTc hmap hmod hT6 hmm hsz
  go_wp2_with fail
  refine wp_planR 6 [0] [some 53,some 54,some 55,some 56,some 57,some 58,none] [[],[0],[0,1],[0,1,2],[],[4],[0,1,2,3,4,5]] [0,1,2,3,4,5] mixed rfl (by kernel_rfl) (by decide) (by decide) rfl ?_
  iterate 6 apply Exists.intro
  refine ⟨rfl,?_,?_⟩
  ·simp only [tS,List.take_zero,AllFrom.cons_eq,AllFrom.nil_eq,OpGoalQ]
   refine ⟨?_,?_,?_,?_,?_,?_,trivial⟩
   all_goals (intro σ hp;(try simp only [gZ,gS,mC,mN,preF_cons,preF_nil,isV,and_true] at hp);(first | (have hq : True:=hp;clear hq hp) | skip))
   all_goals (go_simp;exact ⟨rfl,rfl⟩)
  intro σ hp
  simp only [gZ,gS,mC,mN,preF_cons,preF_nil,isV,and_true] at hp
  simp only [dS,List.drop_zero]
  go_simp
  clear hp
  go_wp2
  refine ⟨rfl,?_⟩
  clear hrun e1 hpl u0 u1 ul
  have h6w:=H6w.out
  have hTd:=HTd.out
  have h6Z0:=H6Z0.out
  have h6Z1:=H6Z1.out
  have h6Z3:=H6Z3.out
  have e2:=blk_cell h6w.blk 2
  simp only [eA,eZ,eS] at e2
  have hpl:=blk_lt h6w.blk
  obtain ⟨q0,q1,ql⟩:=cells2 h6Z0
  obtain ⟨w8,hrun,hmap,hmod,hsz⟩:=mi_del (ty:=0) plPr_keys Tryz.underlying113 (h6w.below below_drew).pm Hs.out Hp.out
  obtain ⟨h8,hT8⟩:=(h6w.below below_drew).turnPl hmap hmod
  have hTe:=(hTd.trans (Turns.ofBelow below_drew)).trans hT8
  have hmm:=HNo.out mp (mem_wF.2 (.inr (.inr (.inl rfl))))
  have hs0:=HS0.out
  have h8Z1:=hmod.keep (blk_drew h6Z1) (hmm _ (by omega))
  have h8Z3:=hmod.keep (blk_drew h6Z3) (hmm _ (by omega))
  rw [Hlp.out] at h8
  have HFin:=Lib.hid (fun w9 (hm : Mod [w.heap.size + 1] w8 w9) => lift_fin Hb0.out Hb01.out (by have:=HS0.out;omega) Hltw.out Htb.out h8 hTe hm)
  obtain ⟨r0,r1,r2,r3,r4,r5,r6,r7,r8,rl⟩:=cells9 h8Z1
  obtain ⟨v0,v1,v2,v3,v4,v5,v6,v7,v8,v9,v10,vl⟩:=cells11 h8Z3
  have f0:=blk_free h8Z1 0
  have f1:=blk_free h8Z1 1
  have f2:=blk_free h8Z1 2
  have f3:=blk_free h8Z1 3
  have f4:=blk_free h8Z1 4
  have f5:=blk_free h8Z1 5
  have f6:=blk_free h8Z1 6
  have f7:=blk_free h8Z1 7
  have f8:=blk_free h8Z1 8
  have n1 : w2.heap.size ≠ w.heap.size + 1:=by omega
  have n2 : w.heap.size + 1 ≠ w2.heap.size:=by omega
  clear h6Z0 h6Z1 h6Z3 h6w hTd hmap hmod h8 hT8 hTe hmm hs0 h8Z1 h8Z3 hsz
  go_wp2_with fail
  refine wp_planR 6 [0] [some 59,some 60,some 61,some 62,some 63,some 64,none] [[],[0],[0,1],[0,1,2],[],[4],[0,1,2,3,4,5]] [0,1,2,3,4,5] mixed rfl (by kernel_rfl) (by decide) (by decide) rfl ?_
  iterate 6 apply Exists.intro
  refine ⟨rfl,?_,?_⟩
  ·simp only [tS,List.take_zero,AllFrom.cons_eq,AllFrom.nil_eq,OpGoalQ]
   refine ⟨?_,?_,?_,?_,?_,?_,trivial⟩
   all_goals (intro σ hp;(try simp only [gZ,gS,mC,mN,preF_cons,preF_nil,isV,and_true] at hp);(first | (have hq : True:=hp;clear hq hp) | skip))
   all_goals (go_simp;exact ⟨rfl,rfl⟩)
  intro σ hp
  simp only [gZ,gS,mC,mN,preF_cons,preF_nil,isV,and_true] at hp
  simp only [dS,List.drop_zero]
  go_simp
  clear hp
  go_wp2
  refine ⟨rfl,?_⟩
  clear hrun e2 hpl q0 q1 ql
  go_wp2
  refine bodyPost_ret (v:=.agg #[.int .i64 (kn : Int),.int .i64 a0,.int .i64 a1,.int .i64 a2,.int .i64 a3,.int .i64 a4,.int .i64 a5,.int .i64 a6,.int .i64 a7]) (by unfold results;try go_simp) rfl ?_
  refine ⟨rfl,?_⟩
  rw [← Hrows.out]
  refine HFin.out _ ?_
  repeat (refine Mod.setCell ?_ (.inl (by simp)) _)
  exact Mod.refl _ _
 all_goals exact undef
end
def RepW (w : World) (p : Nat) (sl : Sl) (L : List Rw) (F : List Nat) : Prop :=
 ∃ ps mt mp tb rw pl FS Fs c,WorldAt w p ps mt mp sl tb rw pl FS Fs c ∧ WCore (· ∈ L) (tb.map (·.1)) rw pl ∧ WOk sl L ∧ F = wF p mt mp tb FS Fs
theorem RepW.mod {w w' : World} {p : Nat} {sl : Sl} {L : List Rw} {F G : List Nat} (h : RepW w p sl L F) (hm : Mod G w w') (hd : ∀ y ∈ F,y ∉ G) : RepW w' p sl L F:=by
 obtain ⟨ps,mt,mp,tb,rw,pl,FS,Fs,c,h1,h2,h3,rfl⟩:=h
 exact ⟨ps,mt,mp,tb,rw,pl,FS,Fs,c,h1.mod hm hd,h2,h3,rfl⟩
theorem RepW.below {w w' : World} {p : Nat} {sl : Sl} {L : List Rw} {F : List Nat} (h : RepW w p sl L F) (hb : Below w.heap.size w w') : RepW w' p sl L F:=h.mod (Mod.ofBelow hb) (by simp)
theorem RepW.lt {w : World} {p : Nat} {sl : Sl} {L : List Rw} {F : List Nat} (h : RepW w p sl L F) : ∀ y ∈ F,y < w.heap.size:=by
 obtain ⟨ps,mt,mp,tb,rw,pl,FS,Fs,c,h1,h2,h3,rfl⟩:=h
 exact h1.lt
theorem RepW.ok {w : World} {p : Nat} {sl : Sl} {L : List Rw} {F : List Nat} (h : RepW w p sl L F) : WOk sl L:=by
 obtain ⟨ps,mt,mp,tb,rw,pl,FS,Fs,c,h1,h2,h3,rfl⟩:=h
 exact h3
def WRet (p : Nat) (sl : Sl) (L : List Rw) (F : List Nat) (w : World) (r : Value) (e : Ending) (w' : World) : Prop:=e = .returned r ∧ ∃ F',RepW w' p sl L F' ∧ Turns w F F' w'
theorem MapAt.fresh {w' : World} {b : Nat} (h : w'.heap[b]? = some (.map #[] 0)) : MapAt Tryz.prog 3 w' b []:=⟨#[],0,h,⟨Go.MapKept.stamped_empty 0,by simp,rfl⟩⟩
def NewW (w : World) (e : Ending) (w' : World) : Prop:=∃ p F,e = .returned (.pointer (some ⟨p,0,none⟩)) ∧ RepW w' p [] [] F ∧ (∀ y ∈ F,w.heap.size ≤ y) ∧ Below w.heap.size w w'
set_option maxRecDepth 20000 in
theorem worldNew_any (w : World) : Calls Tryz.prog 79 #[] w (NewW w):=by
 have hmm:=@run_makeMap Tryz.prog
 go_enter Tryz.func79,Tryz.ntmps79
 go_wp2_with fail
 refine (slotsNew_any _).mono ?_
 rintro e w1 ⟨ps,rfl,hb1,hs1,hps⟩
 have hsz:=hb1.size
 have hpl:=hs1.lt ps (by simp)
 obtain ⟨w2,hw2⟩ : ∃ w2,w2 = ((w1.alloc (.map #[] 0)).alloc (.map #[] 0)).alloc (.cells #[.pointer (some ⟨ps,0,none⟩),.map (some w1.heap.size),.map (some (w1.heap.size + 1))] 115):=⟨_,rfl⟩
 have h0 : w2.heap[w1.heap.size]? = some (.map #[] 0):=by rw [hw2];exact blk_alloc (blk_alloc (MapKept.heap_alloc w1 _).1 _) _
 have h1 : w2.heap[w1.heap.size + 1]? = some (.map #[] 0):=by rw [hw2];have:=(MapKept.heap_alloc (w1.alloc (.map #[] 0)) (.map #[] 0)).1;simp only [World.size_alloc] at this;exact blk_alloc this _
 have h2 : w2.heap[w1.heap.size + 2]? = some (.cells #[.pointer (some ⟨ps,0,none⟩),.map (some w1.heap.size),.map (some (w1.heap.size + 1))] 115 (0,0)):=by
  rw [hw2];have:=heap_alloc_new ((w1.alloc (.map #[] 0)).alloc (.map #[] 0)) (.cells #[.pointer (some ⟨ps,0,none⟩),.map (some w1.heap.size),.map (some (w1.heap.size + 1))] 115);simpa using this
 have hb2 : Below w1.heap.size w1 w2:=by rw [hw2];exact (((Below.refl _ _).alloc (Nat.le_refl _) _).alloc (by simp only [World.size_alloc];omega) _).alloc (by simp only [World.size_alloc];omega) _
 have HS:=Lib.hid (hs1.mod (Mod.ofBelow hb2) (by simp));have HB:=Lib.hid (hb1.trans (hb2.mono hsz));have HW:=Lib.hid hw2
 obtain ⟨H0,H1,H2⟩:=hid3 h0 h1 h2
 clear hs1 hb1 hw2 h0 h1 h2 hb2
 go_wp2
 go_ret
 rw [← HW.out]
 refine ⟨w1.heap.size + 2,wF (w1.heap.size + 2) w1.heap.size (w1.heap.size + 1) [] [ps] (fun _ => []),rfl,⟨ps,w1.heap.size,w1.heap.size + 1,[],fun _ => [],[],[ps],fun _ => [],fun y => if y = w1.heap.size + 2 then 1 else if y = ps then 2 else if y = w1.heap.size then 3 else 4,⟨H2.out,HS.out,MapAt.fresh H0.out,MapAt.fresh H1.out,by simp,by simp,fun y hy => ?_,?_,?_,by simp⟩,?_,wok_nil,rfl⟩,?_,HB.out⟩
 ·simp at hy;subst hy;rw [if_neg (by omega),if_pos rfl]
 ·show (if _ then _ else _) = 3
  rw [if_neg (by omega),if_neg (by omega),if_pos rfl]
 ·show (if _ then _ else _) = 4
  rw [if_neg (by omega),if_neg (by omega),if_neg (by omega)]
 ·exact wcore_nil.congr (by simp)
 ·intro y hy
  rcases mem_wF.1 hy with rfl | rfl | rfl | hy | ⟨t,ht,-⟩
  ·omega
  ·omega
  ·omega
  ·simp at hy;omega
  ·simp at ht
section
variable {w : World} {p ps mt mp : Nat} {sl : Sl} {tb : List (Nat × Nat)} {rw : Nat → List Rw} {pl : List Pl} {FS : List Nat} {Fs : Nat → List Nat} {c : Nat → Nat} {M : Rw → Prop} {L : List Rw}
theorem WCore.len (h : WCore M (tb.map (·.1)) rw pl) (hL : ∀ y,M y → y ∈ L) {k : Nat} (hk : k ∈ tb.map (·.1)) : (rw k).length ≤ L.length:=by
 refine List.Nodup.length_le_of_subset ?_ fun y hy => ?_
 ·refine List.pairwise_iff_getElem.2 fun i j hi hj hij e => ?_
  obtain ⟨-,-,s,q1,q2⟩:=h.row k hk i _ (List.getElem?_eq_getElem hi)
  obtain ⟨-,-,s',q3,q4⟩:=h.row k hk j _ (List.getElem?_eq_getElem hj)
  rw [e] at q1
  have : s = s':=by omega
  subst this
  have:=key_one h.pn q2 q4
  simp only [Prod.mk.injEq] at this
  omega
 ·obtain ⟨i,hi,rfl⟩:=List.mem_iff_getElem.1 hy
  exact hL _ (h.row k hk i _ (List.getElem?_eq_getElem hi)).1
def WMid (p ps mt mp : Nat) (sl : Sl) (M : Rw → Prop) (F : List Nat) (w : World) (r : Value) (e : Ending) (w' : World) : Prop :=
 e = .returned r ∧ ∃ tb rw pl FS Fs c,WorldAt w' p ps mt mp sl tb rw pl FS Fs c ∧ WCore M (tb.map (·.1)) rw pl ∧ Turns w F (wF p mt mp tb FS Fs) w'
theorem lay_core (h : WorldAt w p ps mt mp sl tb rw pl FS Fs c) (hc : WCore M (tb.map (·.1)) rw pl) (hL : ∀ y,M y → y ∈ L) (hL60 : L.length ≤ 60) (s : Nat) (hs : s < 256) (g K a0 a1 a2 a3 a4 a5 a6 a7 : Int) (hb : beastZ (K,a0,a1,a2,a3,a4,a5,a6,a7) = 0)
  (hn : ∀ y,M y → y.1.1 ≠ (s : Int)) :
  Calls Tryz.prog 94 #[.pointer (some ⟨p,0,none⟩),.agg #[.int .i64 (s : Int),.int .i64 g],.agg #[.int .i64 K,.int .i64 a0,.int .i64 a1,.int .i64 a2,.int .i64 a3,.int .i64 a4,.int .i64 a5,.int .i64 a6,.int .i64 a7]] w
   (WMid p ps mt mp sl (fun y => M y ∨ y = (((s : Int),g),K,a0,a1,a2,a3,a4,a5,a6,a7)) (wF p mt mp tb FS Fs) w (.tuple #[])):=by
 obtain ⟨kn,hkn,e,-⟩:=(beastZ_iff _).1 hb
 simp only at e
 subst e
 have hsn:=hc.slotNew hn
 by_cases hk : kn ∈ tb.map (·.1)
 ·obtain ⟨⟨k',b⟩,hkb,rfl⟩:=List.mem_map.1 hk
  have hl : (rw k').length ≤ L.length:=hc.len hL hk
  refine (lay_old h s g k' b a0 a1 a2 a3 a4 a5 a6 a7 hkb hkn hb hs hsn (by omega)).mono ?_
  rintro e w' ⟨rfl,FS',Fs',c',h',hT⟩
  exact ⟨rfl,_,_,_,_,_,_,h',hc.layOld hk rfl rfl hn,hT⟩
 ·refine (lay_new h s g kn a0 a1 a2 a3 a4 a5 a6 a7 (fun t ht e => hk (List.mem_map.2 ⟨t,ht,e⟩)) hkn hb hs hsn).mono ?_
  rintro e w' ⟨b,rfl,FS',Fs',c',h',hT⟩
  refine ⟨rfl,_,_,_,_,_,_,h',?_,hT⟩
  rw [List.map_append]
  exact hc.layNew hk rfl rfl hn
theorem lift_core (h : WorldAt w p ps mt mp sl tb rw pl FS Fs c) (hc : WCore M (tb.map (·.1)) rw pl) (hL : ∀ y,M y → y ∈ L) (hL60 : L.length ≤ 60) (hsl : ∀ y,M y → ∃ s : Nat,s < 60 ∧ y.1.1 = (s : Int)) (hbe : ∀ y,M y → beastZ y.2 = 0)
  (s g K a0 a1 a2 a3 a4 a5 a6 a7 : Int) (hM : M ((s,g),K,a0,a1,a2,a3,a4,a5,a6,a7)) :
  Calls Tryz.prog 103 #[.pointer (some ⟨p,0,none⟩),.agg #[.int .i64 s,.int .i64 g]] w
   (WMid p ps mt mp sl (fun y => M y ∧ y ≠ ((s,g),K,a0,a1,a2,a3,a4,a5,a6,a7)) (wF p mt mp tb FS Fs) w (.agg #[.int .i64 K,.int .i64 a0,.int .i64 a1,.int .i64 a2,.int .i64 a3,.int .i64 a4,.int .i64 a5,.int .i64 a6,.int .i64 a7])):=by
 obtain ⟨s0,kn,i,e1,hp,hx⟩:=hc.has _ hM
 simp only at e1
 subst e1
 obtain ⟨s1,hs1,e2⟩:=hsl _ hM
 simp only at e2
 obtain ⟨hk,-⟩:=hc.pla _ _ _ hp
 obtain ⟨-,e3,-⟩:=hc.row kn hk i _ hx
 simp only at e3
 subst e3
 obtain ⟨hg,hkn⟩:=beastZ_good (x:=(((s0 : Int),g),(kn : Int),a0,a1,a2,a3,a4,a5,a6,a7)) (hbe _ hM) rfl
 obtain ⟨⟨k',b⟩,hkb,rfl⟩:=List.mem_map.1 hk
 have hl : (rw k').length ≤ L.length:=hc.len hL hk
 have hil:=(List.getElem?_eq_some_iff.1 hx).1
 refine (lift_any h s0 g k' b i a0 a1 a2 a3 a4 a5 a6 a7 hkb hkn (by omega) hp hx hg (by omega) (fun y hy => ?_)).mono ?_
 ·have hil : i < (rw k').length:=hil
  rw [remL_at hil] at hy
  split at hy
  ·next hlt =>
   rw [if_pos rfl] at hy
   obtain ⟨q1,-,s2,q3,q4⟩:=hc.row _ hk _ y hy
   obtain ⟨s3,hs3,q5⟩:=hsl y q1
   refine ⟨s2,_,by omega,q3,q4,?_⟩
   rintro rfl
   have:=key_one hc.pn q4 hp
   simp only [Prod.mk.injEq] at this
   omega
  ·cases hy
 ·rintro e w' ⟨rfl,FS',Fs',c',h',hT⟩
  refine ⟨rfl,_,_,_,_,_,_,h',?_,hT⟩
  rw [liftTb_keys]
  exact hc.lift hp hx
end
end Go.Proofs.YtfdillpofciicaaGreatDoor
