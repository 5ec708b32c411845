import Derived.Test.YtoheblfpjinmnaaGreatDoorTextParsesJ15
import Derived.Shelf.SlIterI.Collect
set_option linter.unusedVariables false
set_option linter.unusedSimpArgs false
/- A part of the proof that TextParses returns true. -/
namespace Go.Proofs.YtoheblfpjinmnaaGreatDoor
open Go Go.RowKit
attribute [local go_sem] AllFrom.cons_eq AllFrom.nil_eq putF_nil putF_cons wantedL_none wantedL_some OpGoalT OpGoalV OpGoalQ OpGoalA OpGoalK YieldsR preF_nil preF_cons
section
variable {vg vl vr : Value} {w : World} {q : Nat} {B : List Bd} {F : List Nat}
theorem hasHandle_own {W : World} {v : Value} {l : List Hd} (hl : l.length ≤ 9223372036854775807) (h : W.ownsRow 0 46 2 v l.length (l.flatMap handleC)) (s g : Int) :
  Calls Tryz.prog 86 #[v,.agg #[.int .i64 s,.int .i64 g]] W fun e w' => e = .returned (.bool (hasB l (s,g))) ∧ Below W.heap.size W w':=by
 obtain ⟨A,c,rfl,-,hL⟩:=own_lies h
 exact hasHandle_any A c l s g W hl hL
set_option maxRecDepth 20000 in
set_option maxHeartbeats 8000000 in
theorem radopt_diff (hO : FamOk B) (hl : B.length ≤ 1200000000000) (h : RepB vg vl vr w q B F) (s g t u : Int) (hne : (s,g) ≠ (t,u)) : Calls Tryz.prog 64 #[.pointer (some ⟨q,0,none⟩),.agg #[.int .i64 s,.int .i64 g],.agg #[.int .i64 t,.int .i64 u]] w (RFRet vg vl vr (adoB B (s,g) (t,u)) (.int .i64 (adoE B (s,g) (t,u))) q F w):=by
 obtain ⟨w0,hw0,hb0,hz0,hs0⟩:=box1 w (.cells #[.int .i64 s,.int .i64 g] 46)
 obtain ⟨w1,hw1,hb1,hz1,hs1⟩:=box1 w0 (.cells #[.int .i64 t,.int .i64 u] 46)
 have hz01:=(Mod.ofBelow hb1).keep hz0 (by simp)
 have hB1:=hb0.trans (hb1.mono hb0.size)
 have heq:=fun w => eqlHandle w s g t u
 simp only [eqB_ne hne] at heq
 have h1:=h.below hB1
 have hun:=fun V (hb : Below w1.heap.size w1 V) => runder_any hO hl (lowN B) s g V (lowN_spec hO.ac _) (h1.below hb)
 have hul:=underN_len hO (lowN_spec hO.ac (s,g))
 have hup : hasB (underN B (lowN B) (s,g)) (t,u) = true ↔ Up B (t,u) (s,g):=by
  rw [hasB_iff,← mem_underB hO]
  exact ⟨fun h => .inr h,fun h => h.resolve_left hne⟩
 generalize underN B (lowN B) (s,g) = un at *
 obtain ⟨q0,q1,ql⟩:=cells2 hz01
 obtain ⟨y0,y1,yl⟩:=cells2 hz1
 obtain ⟨Hun,Hul,HUP,HZ1,HB1,Hz01,Hz1,H,Hl,HO⟩:=hid10 hun hul hup h1 hB1 hz01 hz1 h hl hO
 clear hun hul hup h1 hB1 hz01 hz1 h hl hO
 clear hb0 hz0 hs0 hb1 hs1
 go_enter Tryz.func64,Tryz.ntmps64
 go_wp2_with fail
 clear hw0 hw1 q0 q1 ql y0 y1 yl
 refine wp_planK [6] 8 [] [some 9,some 10,some 11,some 12,some 13,some 14,some 15,some 16,some 17,some 18] [[],[],[0,1],[0,1,2],[0,1,2,3],[0,1,2,3],[0,1,2,3,4,5],[0,1,2,3],[0,1,2,3,4,5,6,7],[0,1,2,3,4,5,6,7,8]] [0,1,2,3,4,5,6,7] (fun Lf σ V => IUnd w1 un Lf σ V) mixed rfl (by kernel_rfl) (by decide) (by decide) (by decide) (IUnd.start below_drew) rfl ?_
 iterate 8 apply Exists.intro
 refine ⟨rfl,?_,?_⟩
 ·simp only [tS,List.take_zero,AllFrom.cons_eq,AllFrom.nil_eq,OpGoalK]
  refine ⟨?_,?_,?_,?_,?_,?_,?_,?_,trivial⟩
  all_goals (intro L' σ V h1 h2 h3 hI hp;have HA1:=Lib.hid h1;have HA2:=Lib.hid h2;have HA3:=Lib.hid h3;clear h1 h2 h3;(try simp only [gZ,gS,preK_cons,preK_nil] at hp);(try simp only [List.mem_cons,List.not_mem_nil,or_false,eq_self,Nat.reduceEqDiff,Nat.reduceAdd,Nat.zero_add,false_or,true_or,true_and,and_true] at hp);(first | (have hq : True:=hp;clear hq hp) | skip);have HI:=Lib.hid hI;clear hI)
  all_goals (
   have hzV:=(Mod.ofBelow HI.out.b).keep Hz01.out (by simp)
   have hyV:=(Mod.ofBelow HI.out.b).keep Hz1.out (by simp)
   have q0:=blk_cell hzV 0
   have q1:=blk_cell hzV 1
   simp only [eA,eZ,eS] at q0 q1
   have ql:=blk_lt hzV
   have y0:=blk_cell hyV 0
   have y1:=blk_cell hyV 1
   simp only [eA,eZ,eS] at y0 y1
   have yl:=blk_lt hyV
   clear hzV hyV)
  iterate 6 · (go_simp;exact ⟨.inr rfl,HI.out.read (by decide) _⟩)
  ·go_simp
   refine (Hun.out V HI.out.b).mono ?_
   rintro e V' ⟨v,rfl,hv,hb⟩
   exact ⟨_,rfl,PostK.mk (c:=undef) (.inl (by decide)) (HI.out.got hb (row_base hv (fun k _ => Nat.zero_le k)))⟩
  ·(go_simp;exact ⟨.inr rfl,HI.out.read (by decide) _⟩)
 ·intro L' σ V h1 hI hp
  have h6:=hI.r (h1 6 (by decide))
  have hbV:=hI.b
  clear h1 hI
  simp only [preK_cons,preK_nil,gZ,gS] at hp;simp only [List.mem_cons,List.not_mem_nil,or_false,eq_self,Nat.reduceEqDiff,false_or,true_or,true_and,and_true] at hp
  have HH:=Lib.hid (hasHandle_own (by have:=Hul.out;have:=Hl.out;omega) h6 t u)
  have hZV:=HZ1.out.below hbV
  have hzV:=(Mod.ofBelow hbV).keep Hz01.out (by simp)
  have hyV:=(Mod.ofBelow hbV).keep Hz1.out (by simp)
  have hBV:=HB1.out.trans (hbV.mono HB1.out.size)
  obtain ⟨HZV,HzV,HyV,HBV⟩:=hid4 hZV hzV hyV hBV
  clear hZV hzV hyV hBV
  clear h6 hbV
  simp only [dS,List.drop_zero]
  go_simp
  clear hp
  generalize σ 6 = v6 at *
  go_wp2_with fail
  refine HH.out.mono ?_
  rintro e w2 ⟨rfl,hb2⟩
  have hBw2:=HBV.out.trans (hb2.mono HBV.out.size)
  cases hh : hasB un (t,u) with
  | true =>
   have hfin : RFRet vg vl vr (adoB B (s,g) (t,u)) (.int .i64 (adoE B (s,g) (t,u))) q F w (.returned (.int .i64 8)) w2:=by
    have hu:=HUP.out.1 hh
    have e1 : adoB B (s,g) (t,u) = B:=by unfold adoB;rw [if_pos hu]
    have e2 : adoE B (s,g) (t,u) = 8:=by unfold adoE;rw [if_pos hu]
    rw [e1,e2]
    exact ⟨rfl,F,H.out.below hBw2,Turns.same hBw2⟩
   have Hfin:=Lib.hid hfin
   clear hfin
   clear hb2 hBw2 hh
   go_wp2
   refine ⟨rfl,?_⟩
   go_wp2
   refine bodyPost_ret (v:=.int .i64 8) (by unfold results;try go_simp) rfl ?_
   exact Hfin.out
  | false =>
   have hnu : ¬ Up B (t,u) (s,g):=fun hu => by rw [HUP.out.2 hu] at hh;cases hh
   have hZ2:=HZV.out.below hb2
   have hz2:=(Mod.ofBelow hb2).keep HzV.out (by simp)
   have hy2:=(Mod.ofBelow hb2).keep HyV.out (by simp)
   obtain ⟨A,cap,hq,hrow⟩:=hZ2.open_
   have H3:=Lib.hid (withoutAdopt_any hrow Hl.out s g w.heap.size hz2)
   obtain ⟨c0,c1,c2,c3,cl⟩:=cells4 hq
   obtain ⟨HZ2,Hz2,Hy2,Hq,Hnu,HBw2⟩:=hid6 hZ2 hz2 hy2 hq hnu hBw2
   clear hZ2 hz2 hy2 hq hnu hBw2
   clear hb2 hrow hh
   go_wp2_with fail
   refine ⟨rfl,?_⟩
   go_wp2_with fail
   clear c0 c1 c2 c3 cl
   refine H3.out.mono ?_
   rintro e w3 ⟨v,rfl,hv,hb3⟩
   have hB : (outB B (s,g)).length ≤ 1200000000000:=by
    have h1 : (outB B (s,g)).length ≤ B.length:=List.length_filter_le _ _
    have:=Hl.out
    omega
   have hat:=fun k => @insB_at B ((s,g),(t,u)) k
   simp only at hat
   have hv0 : w3.ownsRow 0 55 4 v (outB B (s,g)).length ((outB B (s,g)).flatMap bdC):=row_base hv (fun k _ => Nat.zero_le k)
   have hins : adoB B (s,g) (t,u) = insB B ((s,g),(t,u)):=by unfold adoB;rw [if_neg Hnu.out]
   have hinE : adoE B (s,g) (t,u) = 0:=by unfold adoE;rw [if_neg Hnu.out]
   have hz3:=(Mod.ofBelow hb3).keep Hz2.out (by simp)
   have hy3:=(Mod.ofBelow hb3).keep Hy2.out (by simp)
   have hZ3:=HZ2.out.below hb3
   have hq3:=(Mod.ofBelow hb3).keep Hq.out (by simp)
   have hBw3:=HBw2.out.trans (hb3.mono HBw2.out.size)
   generalize outB B (s,g) = l at *
   obtain ⟨A3,cap3,rfl,-,-⟩:=row_slice hv0
   obtain ⟨Hat,Hv,Hins,HinE,Hz3,Hy3,HZ3,HBw3,HLB,Hq3⟩:=hid10 hat hv0 hins hinE hz3 hy3 hZ3 hBw3 hB hq3
   clear hat hv0 hins hinE hz3 hy3 hZ3 hBw3 hB hq3
   clear hb3 hv
   go_wp2_with fail
   go_loopw [8] (fun i wr => ∃ k : Nat,k ≤ l.length ∧ i = .int .i64 k ∧ (∀ j (h : j < l.length),j < k → ltH l[j].1 (s,g) = true) ∧ Below w3.heap.size w3 wr) (fun i _ => l.length - (Go.RowKit.intOf i).toNat)
   case atStart => exact ⟨0,by omega,rfl,fun j h hj => by omega,Below.refl _ _⟩
   case round =>
    obtain ⟨k,hk,rfl,hno,hbel⟩:=hrel
    have hsz:=hbel.size
    have hzr:=(Mod.ofBelow hbel).keep Hz3.out (by simp)
    have hyr:=(Mod.ofBelow hbel).keep Hy3.out (by simp)
    have hrow:=row_mod Hv.out (Mod.ofBelow hbel) (by simp)
    have hl63 : l.length ≤ 9223372036854775807:=by have:=HLB.out;omega
    obtain ⟨q0,q1,ql⟩:=cells2 hzr
    by_cases hgo : ∃ h : k < l.length,ltH l[k].1 (s,g) = true
    ·obtain ⟨hlt,hgo⟩:=hgo
     obtain ⟨g0,cap0,cur0,hv,-,-,-⟩:=row_some hrow (by omega)
     cases hv
     obtain ⟨g0',cap',e,hcell⟩:=row_rec bdC_len hrow hlt
     cases e
     have c3:=hcell 0 (.int .i64 l[k].1.1) rfl
     have c4:=hcell 1 (.int .i64 l[k].1.2) rfl
     rw [Nat.add_zero] at c3
     have hgl:=row_lt hrow g0 rfl
     have hno2 : ∀ j (h : j < l.length),j < k + 1 → ltH l[j].1 (s,g) = true:=by
      intro j h1 h2
      rcases Nat.lt_or_eq_of_le (Nat.lt_succ_iff.1 h2) with h3 | rfl
      ·exact hno j h1 h3
      ·exact hgo
     have hki : (k : Int) < (l.length : Int):=by omega
     have HLs:=Lib.hid (less_any l[k].1.1 l[k].1.2 s g)
     have hgo' : ltH (l[k].1.1,l[k].1.2) (s,g) = true:=hgo
     generalize l[k].1.1 = z0 at *
     generalize l[k].1.2 = z1 at *
     rw [hgo'] at HLs
     have hb2:=hbel.drew
     obtain ⟨Hno2,Hb2⟩:=hid2 hno2 hb2
     clear hno2 hb2
     clear hno hbel hzr hyr hrow hcell hgo hgo'
     go_wp2_with fail
     refine wp_planR 11 [0,1] [some 25,some 26,some 27,some 28,some 29,some 30,some 31,some 32,some 33,some 34,some 35,some 36,some 37] [[],[],[1],[0,1,2],[0,1,2,3],[0,1,2,3,4],[0,1,2,3,4],[0,1,2,3,4,5,6],[0,1,2,3,4,5,6,7],[0,1,2,3,4,5,6,7,8],[0,1,2,3,4],[0,1,2,3,4,5,6,7,8,9,10],[0,1,2,3,4,5,6,7,8,9,10,11]] [0,1,2,3,4,5,6,7,8,9,10] mixed rfl (by kernel_rfl) (by decide) (by decide) rfl ?_
     iterate 11 apply Exists.intro
     refine ⟨rfl,?_,?_⟩
     ·simp only [tS,List.take_zero,AllFrom.cons_eq,AllFrom.nil_eq,OpGoalQ]
      refine ⟨?_,?_,?_,?_,?_,?_,?_,?_,?_,?_,?_,trivial⟩
      all_goals (intro σ hp;(try simp only [gZ,gS,mC,mN,preF_cons,preF_nil,isV,and_true] at hp);(first | (have hq : True:=hp;clear hq hp) | skip))
      all_goals (go_simp;exact ⟨rfl,rfl⟩)
     intro σ hp
     simp only [gZ,gS,mC,mN,preF_cons,preF_nil,isV,and_true] at hp
     simp only [dS,List.drop_zero]
     go_simp
     clear hp
     go_wp2_with fail
     refine (HLs.out _).mono ?_
     rintro e w5 ⟨rfl,hb5⟩
     have hb25:=Hb2.out.trans (hb5.mono Hb2.out.size)
     have Hb25:=Lib.hid hb25
     clear hb25
     clear hb5 q0 q1 ql c3 c4
     go_wp2_with fail
     refine ⟨rfl,?_⟩
     go_wp2
     go_roundw
     case rel => exact ⟨k + 1,by omega,by go_num,Hno2.out,Hb25.out⟩
     case measure => simp [Go.RowKit.intOf];omega
    ·have hins2:=Hat.out k hk hno (fun h => by
      cases e : ltH l[k].1 (s,g) with
      | false => rfl
      | true => exact absurd ⟨h,e⟩ hgo)
     have hlB:=HLB.out
     have hZr:=HZ3.out.below hbel
     have hBr:=HBw3.out.trans (hbel.mono HBw3.out.size)
     obtain ⟨Hins2,Hbel,HZr,HBr,Hzr,Hyr,Hrow,Hno⟩:=hid8 hins2 hbel hZr hBr hzr hyr hrow hno
     clear hins2 hbel hZr hBr hzr hyr hrow hno
     have Hk:=Lib.hid hk
     rcases Nat.lt_or_ge k l.length with hlt | hlt
     case' inl =>
      have hgo' : ltH (l[k].1.1,l[k].1.2) (s,g) = false:=by
       cases e : ltH (l[k].1.1,l[k].1.2) (s,g) with
       | false => rfl
       | true => exact absurd ⟨hlt,e⟩ hgo
      have hrow:=Hrow.out
      obtain ⟨g0,cap0,cur0,hv,-,-,-⟩:=row_some hrow (by omega)
      cases hv
      obtain ⟨g0',cap',e,hcell⟩:=row_rec bdC_len hrow hlt
      cases e
      have c3:=hcell 0 (.int .i64 l[k].1.1) rfl
      have c4:=hcell 1 (.int .i64 l[k].1.2) rfl
      rw [Nat.add_zero] at c3
      have hgl:=row_lt hrow g0 rfl
      have hki : (k : Int) < (l.length : Int):=by omega
      have HLs:=Lib.hid (less_any l[k].1.1 l[k].1.2 s g)
      generalize l[k].1.1 = z0 at *
      generalize l[k].1.2 = z1 at *
      rw [hgo'] at HLs
      clear hcell hgo hgo' hrow
      go_wp2_with fail
      refine wp_planR 11 [0,1] [some 25,some 26,some 27,some 28,some 29,some 30,some 31,some 32,some 33,some 34,some 35,some 36,some 37] [[],[],[1],[0,1,2],[0,1,2,3],[0,1,2,3,4],[0,1,2,3,4],[0,1,2,3,4,5,6],[0,1,2,3,4,5,6,7],[0,1,2,3,4,5,6,7,8],[0,1,2,3,4],[0,1,2,3,4,5,6,7,8,9,10],[0,1,2,3,4,5,6,7,8,9,10,11]] [0,1,2,3,4,5,6,7,8,9,10] mixed rfl (by kernel_rfl) (by decide) (by decide) rfl ?_
      iterate 11 apply Exists.intro
      refine ⟨rfl,?_,?_⟩
      ·simp only [tS,List.take_zero,AllFrom.cons_eq,AllFrom.nil_eq,OpGoalQ]
       refine ⟨?_,?_,?_,?_,?_,?_,?_,?_,?_,?_,?_,trivial⟩
       all_goals (intro σ hp;(try simp only [gZ,gS,mC,mN,preF_cons,preF_nil,isV,and_true] at hp);(first | (have hq : True:=hp;clear hq hp) | skip))
       all_goals (go_simp;exact ⟨rfl,rfl⟩)
      intro σ hp
      simp only [gZ,gS,mC,mN,preF_cons,preF_nil,isV,and_true] at hp
      simp only [dS,List.drop_zero]
      go_simp
      clear hp
      go_wp2_with fail
      refine (HLs.out _).mono ?_
      rintro e w5 ⟨rfl,hb5⟩
      have hb35 : Below wr.heap.size wr w5:=below_drew.trans hb5
      have Hb35:=Lib.hid hb35
      clear hb35
      clear hb5 q0 q1 ql c3 c4 hki hgl hlt
      go_wp2_with fail
      refine ⟨rfl,?_⟩
      go_wp2_with fail
     case' inr =>
      have hki : decide (k < l.length) = false:=by simp;omega
      have hb35 : Below wr.heap.size wr wr.drew:=below_drew
      have Hb35:=Lib.hid hb35
      clear hb35
      clear hgo
      go_wp2_with fail
      refine wp_planR 11 [0,1] [some 25,some 26,some 27,some 28,some 29,some 30,some 31,some 32,some 33,some 34,some 35,some 36,some 37] [[],[],[1],[0,1,2],[0,1,2,3],[0,1,2,3,4],[0,1,2,3,4],[0,1,2,3,4,5,6],[0,1,2,3,4,5,6,7],[0,1,2,3,4,5,6,7,8],[0,1,2,3,4],[0,1,2,3,4,5,6,7,8,9,10],[0,1,2,3,4,5,6,7,8,9,10,11]] [0,1,2,3,4,5,6,7,8,9,10] mixed rfl (by kernel_rfl) (by decide) (by decide) rfl ?_
      iterate 11 apply Exists.intro
      refine ⟨rfl,?_,?_⟩
      ·simp only [tS,List.take_zero,AllFrom.cons_eq,AllFrom.nil_eq,OpGoalQ]
       refine ⟨?_,?_,?_,?_,?_,?_,?_,?_,?_,?_,?_,trivial⟩
       all_goals (intro σ hp;(try simp only [gZ,gS,mC,mN,preF_cons,preF_nil,isV,and_true] at hp);(first | (have hq : True:=hp;clear hq hp) | skip))
       all_goals (go_simp;exact ⟨rfl,rfl⟩)
      intro σ hp
      simp only [gZ,gS,mC,mN,preF_cons,preF_nil,isV,and_true] at hp
      simp only [dS,List.drop_zero]
      go_simp
      clear hp
      generalize wr.drew = w5 at *
      go_wp2_with fail
      refine ⟨rfl,?_⟩
      go_wp2_with fail
      clear hki hlt q0 q1 ql
     all_goals (
      have hrow5:=row_mod Hrow.out (Mod.ofBelow Hb35.out) (by simp)
      obtain ⟨v6,v18,e6,e18,hcp,hap⟩:=slice_splitB hrow5 Hk.out HLB.out
      have hZ5:=HZr.out.below Hb35.out
      have hz5:=(Mod.ofBelow Hb35.out).keep Hzr.out (by simp)
      have hy5:=(Mod.ofBelow Hb35.out).keep Hyr.out (by simp)
      have hB5:=HBr.out.trans (Hb35.out.mono HBr.out.size)
      obtain ⟨A7,cap7,hq5,-⟩:=hZ5.open_
      have hfin : ∀ V v',Below w5.heap.size w5 V → V.ownsRow w5.heap.size 55 4 v' (insB B ((s,g),(t,u))).length ((insB B ((s,g),(t,u))).flatMap bdC) → RFRet vg vl vr (adoB B (s,g) (t,u)) (.int .i64 (adoE B (s,g) (t,u))) q F w (.returned (.int .i64 0)) (V.setCell ⟨q,3,none⟩ v'):=by
       intro V v' hbV hv'
       obtain ⟨F',h4,hT⟩:=hZ5.put hbV hv'
       rw [Hins.out,HinE.out]
       exact ⟨rfl,F',h4,Turns.after hB5 hT⟩
      have Hfin:=Lib.hid hfin;have E6:=Lib.hid e6;have E18:=Lib.hid e18;have HCP:=Lib.hid hcp;have HAP:=Lib.hid hap;have Hq5:=Lib.hid hq5;have Hz5:=Lib.hid hz5;have Hy5:=Lib.hid hy5
      clear hfin e6 e18 hcp hap hq5 hz5 hy5
      clear hrow5 hZ5 hB5
      refine wp_planK [4,8,9,13] 14 [0,1,2,10,11] [some 40,some 41,some 42,some 43,some 44,some 45,some 46,some 47,some 48,some 49,some 50,some 51,some 52,some 53,some 54,some 55,none] [[],[],[],[1,2],[1,2,3],[],[],[5,6],[5,6,7],[1,2,3,4,5,6,7,8],[],[],[10,11],[1,2,3,4,5,6,7,8,9,10,11,12],[0,1,2,3,4,5,6,7,8,9,10,11,12,13],[0,1,2,3,4,5,6,7,8,9,10,11,12,13,14],[0,1,2,3,4,5,6,7,8,9,10,11,12,13,14,15]] [0,1,2,3,4,5,6,7,8,9,10,11,12,13] (fun Lf σ V => IAd w5 (l.take k) (l.drop k) ((s,g),(t,u)) Lf σ V) mixed rfl (by kernel_rfl) (by decide) (by decide) (by decide) (IAd.start below_drew) rfl ?_
      iterate 14 apply Exists.intro
      refine ⟨rfl,?_,?_⟩
      ·simp only [tS,List.take_zero,AllFrom.cons_eq,AllFrom.nil_eq,OpGoalK]
       refine ⟨?_,?_,?_,?_,?_,?_,?_,?_,?_,?_,?_,?_,?_,?_,trivial⟩
       all_goals (intro L' σ V h1 h2 h3 hI hp;have HA1:=Lib.hid h1;have HA2:=Lib.hid h2;have HA3:=Lib.hid h3;clear h1 h2 h3;(try simp only [gZ,gS,preK_cons,preK_nil] at hp);(try simp only [List.mem_cons,List.not_mem_nil,or_false,eq_self,Nat.reduceEqDiff,Nat.reduceAdd,Nat.zero_add,false_or,true_or,true_and,and_true] at hp);(first | (have hq : True:=hp;clear hq hp) | skip);have HI:=Lib.hid hI;clear hI)
       all_goals (
        have hzV:=(Mod.ofBelow HI.out.b).keep Hz5.out (by simp)
        have hyV:=(Mod.ofBelow HI.out.b).keep Hy5.out (by simp)
        have q0:=blk_cell hzV 0
        have q1:=blk_cell hzV 1
        simp only [eA,eZ,eS] at q0 q1
        have ql:=blk_lt hzV
        have y0:=blk_cell hyV 0
        have y1:=blk_cell hyV 1
        simp only [eA,eZ,eS] at y0 y1
        have yl:=blk_lt hyV
        have e6:=E6.out
        have e18:=E18.out
        clear hzV hyV)
       ·(go_simp;exact ⟨.inr rfl,HI.out.read (by decide) _⟩)
       ·(go_simp;exact ⟨.inr rfl,HI.out.read (by decide) _⟩)
       ·(go_simp;exact ⟨.inr rfl,HI.out.read (by decide) _⟩)
       ·(go_simp;exact ⟨.inr rfl,HI.out.read (by decide) _⟩)
       ·go_simp
        refine (HCP.out _ (Mod.ofBelow HI.out.b)).mono ?_
        rintro e V' ⟨v,rfl,hv,hb⟩
        exact ⟨_,rfl,PostK.mk (c:=undef) (.inl (by decide)) (HI.out.copied (HA3.out 13 (by decide)) hb hv (HA3.out 9 (by decide)))⟩
       ·(go_simp;exact ⟨.inr rfl,HI.out.read (by decide) _⟩)
       ·(go_simp;exact ⟨.inr rfl,HI.out.read (by decide) _⟩)
       ·(go_simp;exact ⟨.inr rfl,HI.out.read (by decide) _⟩)
       ·go_simp
        exact PostK.mk (c:=undef) (.inl (by decide)) (HI.out.oned (HA3.out 13 (by decide)) (HA3.out 9 (by decide)))
       ·simp only [wantedL_none,if_true]
        have ha4:=HI.out.c (HA2.out 4 (by decide)) HA1.out
        have ha8:=HI.out.o (HA2.out 8 (by decide)) HA1.out
        have Ha4:=Lib.hid ha4;have Ha8:=Lib.hid ha8
        have Hlen:=Lib.hid (show ((l.take k).length + 1) * 32 ≤ 140737488355328 by rw [List.length_take];omega)
        clear ha4 ha8
        refine yr_app (enc:=bdC) (n:=4) (bytes:=32) (.tmp 44) (.tmp 48) 24 55 rfl Tryz.underlying24 inf_Bond rfl (by omega) (by omega) bdC_one bdC_len w5.heap.size (σ 4) (l.take k) ((s,g),(t,u)) w5.heap.size (bdC ((s,g),(t,u))).toArray 55 (by go_simp) Ha4.out (by go_simp;exact Ha8.out) rfl Hlen.out HI.out.b.size ?_
        intro v' V' hv hg _
        exact PostK.mk (c:=undef) (.inl (by decide)) (HI.out.apped (HA3.out 13 (by decide)) (HA2.out 4 (by decide)) HA1.out hg hv)
       ·(go_simp;exact ⟨.inr rfl,HI.out.read (by decide) _⟩)
       ·(go_simp;exact ⟨.inr rfl,HI.out.read (by decide) _⟩)
       ·(go_simp;exact ⟨.inr rfl,HI.out.read (by decide) _⟩)
       ·obtain ⟨v',V',hr,hv,hg⟩:=HAP.out _ (Mod.ofBelow HI.out.b) 24 _ (σ 9) (l.take k ++ [((s,g),(t,u))]) (HI.out.a (HA2.out 9 (by decide)) HA1.out) (by rw [List.length_append,List.length_take,List.length_singleton];omega) HI.out.b.size
        simp only [wantedL_none,if_true]
        refine yr_appVB (.tmp 49) (.tmp 52) 24 rfl (by go_simp) (by go_simp) hr (PostK.mk (c:=undef) (.inl (by decide)) (HI.out.apped2 HA1.out (HA2.out 9 (by decide)) hg hv))
      ·intro L' σ V h1 hI hp
       have h13:=hI.e (h1 13 (by decide))
       rw [← Hins2.out] at h13
       have hB:=hI.b
       clear h1 hI
       have hFV:=Hfin.out V (σ 13) hB h13
       have hqV:=(Mod.ofBelow hB).keep Hq5.out (by simp)
       have hql:=blk_lt hqV
       have f3:=blk_free hqV 3
       have c3:=blk_cell hqV 3
       simp only [eA,eZ,eS] at c3
       have hsl:=row_slice h13
       have hs1:=Classical.choose_spec hsl
       generalize Classical.choose hsl = A2 at hs1
       have hs2:=Classical.choose_spec hs1
       generalize Classical.choose hs1 = cap2 at hs2
       have hv2:=hs2.1
       have HFV:=Lib.hid hFV
       clear hFV
       clear hsl hs1 hs2 h13 hB hqV
       simp only [preK_cons,preK_nil,gZ,gS] at hp;simp only [List.mem_cons,List.not_mem_nil,or_false,eq_self,Nat.reduceEqDiff,false_or,true_or,true_and,and_true] at hp
       simp only [dS,List.drop_zero]
       go_simp
       clear hp
       generalize σ 13 = v13 at *
       subst hv2
       go_wp2_with fail
       refine ⟨rfl,?_⟩
       go_wp2
       refine bodyPost_ret (v:=.int .i64 0) (by unfold results;try go_simp) rfl ?_
       exact HFV.out)
 all_goals exact undef
end
end Go.Proofs.YtoheblfpjinmnaaGreatDoor
namespace Go.Proofs.YtoheblfpjinmnaaGreatDoor
open Go Go.RowKit
attribute [local go_sem] AllFrom.cons_eq AllFrom.nil_eq putF_nil putF_cons wantedL_none wantedL_some OpGoalQ YieldsR preF_nil preF_cons
set_option maxRecDepth 20000 in
set_option maxHeartbeats 1000000 in
theorem eqBond_any (A : Option Addr) (c : Nat) (A' : Option Addr) (c' : Nat) (l l' : List Bd) (w : World) (hl : l.length ≤ 9223372036854775807) (hl' : l'.length ≤ 9223372036854775807)
  (hA : Lies w w.heap.size A (l.flatMap bdC)) (hA' : Lies w w.heap.size A' (l'.flatMap bdC)) :
  Calls Tryz.prog 21 #[.slice A l.length c,.slice A' l'.length c'] w fun e w' => e = .returned (.bool (eqB l l')) ∧ Below w.heap.size w w':=by
 by_cases hlen : l.length = l'.length
 ·have hb : ((l.length : Int) != (l'.length : Int)) = false:=by simp [hlen]
  have Hlen:=Lib.hid hlen
  clear hlen
  go_enter Tryz.func21,Tryz.ntmps21
  go_wp2
  go_loopw [14] (fun i wr => ∃ k : Nat,k ≤ l.length ∧ i = .int .i64 k ∧ l.take k = l'.take k ∧ Below w.heap.size w wr) (fun i _ => l.length - (Go.RowKit.intOf i).toNat)
  case atStart => exact ⟨0,by omega,rfl,rfl,Below.refl _ _⟩
  case round =>
   obtain ⟨k,hk,rfl,heq,hbel⟩:=hrel
   have Heq:=Lib.hid heq
   clear heq hb
   have hsz:=hbel.size
   by_cases hlt : k < l.length
   ·have hlt' : k < l'.length:=by rw [← Hlen.out];exact hlt
    obtain ⟨ab,ao,rfl,hal,hc⟩:=hA.rec_at bdC_len (by omega) hlt
    obtain ⟨bb,bo,rfl,hbl,hc'⟩:=hA'.rec_at bdC_len (by omega) hlt'
    have hs:=take_succ_get l k hlt
    have hs':=take_succ_get l' k hlt'
    have hne : l[k] ≠ l'[k] → l ≠ l':=by
     intro h e;subst e;exact h rfl
    have hc1 : ∀ j u,(bdC l[k])[j]? = some u → wr.cell? ((⟨ab,ao + k * 4,none⟩ : Addr).add j) = some u:=fun j u hu => by
     have:=(hbel.cell (p:=⟨ab,ao + k * 4 + j,none⟩) hal).trans (hc j u hu)
     rw [Addr.add_mid];exact this
    have hc2 : ∀ j u,(bdC l'[k])[j]? = some u → wr.cell? ((⟨bb,bo + k * 4,none⟩ : Addr).add j) = some u:=fun j u hu => by
     have:=(hbel.cell (p:=⟨bb,bo + k * 4 + j,none⟩) hbl).trans (hc' j u hu)
     rw [Addr.add_mid];exact this
    have hal2 : ab < wr.heap.size:=by omega
    have hbl2 : bb < wr.heap.size:=by omega
    have hin : (k : Int) < (l'.length : Int):=by omega
    generalize l[k] = x at *
    generalize l'[k] = y at *
    obtain ⟨Hs,Hs',Hne,Hc1,Hc2,Hbel⟩:=hid6 hs hs' hne hc1 hc2 hbel
    have he:=fun w => neqBond w x y
    clear hs hs' hne hc hc' hA hA' hc1 hc2 hbel
    generalize hr : eqB x y = r at *
    have Hr:=Lib.hid hr
    clear hr
    have hDa : ∀ u ∈ bdC x,u.oneCell' = true:=bdC_one x
    have HDa:=Lib.hid hDa
    clear hDa
    go_wp2_with (first | (refine wpList_load_flat rfl 55 (.tmp 17) rfl _ rfl (bdC x) _ Tryz.underlying55 rfl (sz_Bond _) Hc1.out ?_) | (refine wpList_store_new rfl 55 (.tmp 6) (.tmp 18) rfl wr (ints [0,0,0,0]) (bdC x) 55 rfl rfl rfl (sz_Bond _) HDa.out ?_))
    have hnew : ∀ j u,(bdC x)[j]? = some u → (wr.alloc (.cells (bdC x).toArray 55)).drew.cell? ((⟨wr.heap.size,0,none⟩ : Addr).add j) = some u:=fun j u hu => new_rec rfl (by simp) j u hu
    have hold : ∀ j u,(bdC y)[j]? = some u → (wr.alloc (.cells (bdC x).toArray 55)).drew.cell? ((⟨bb,bo + k * 4,none⟩ : Addr).add j) = some u:=fun j u hu => by
     have:=Hc2.out j u hu
     rw [Addr.add_mid] at this ⊢
     exact (((Below.refl wr.heap.size wr).alloc (Nat.le_refl _) _).cell (p:=⟨bb,bo + k * 4 + j,none⟩) hbl2).trans this
    obtain ⟨Hnew,Hold⟩:=hid2 hnew hold
    clear hnew hold
    refine wp_planR 6 [1,2] [some 19,some 20,some 21,some 22,some 23,some 24] [[],[],[],[1,2],[1,2,3],[0,1,2,3,4]] [0,1,2,3,4,5] mixed rfl (by kernel_rfl) (by decide) (by decide) rfl ?_
    iterate 6 apply Exists.intro
    refine ⟨rfl,?_,?_⟩
    ·simp only [tS,List.take_zero,AllFrom.cons_eq,AllFrom.nil_eq,OpGoalQ]
     refine ⟨?_,?_,?_,?_,?_,?_,trivial⟩
     all_goals (intro σ hp;(try simp only [gZ,gS,mC,mN,preF_cons,preF_nil,isV,and_true] at hp);(first | (have hq : True:=hp;clear hq hp) | skip))
     ·(simp only [wantedL_none,↓reduceIte,gZ,gS];refine yr_load 55 (.tmp 6) (by rfl) ⟨wr.heap.size,0,none⟩ ?_ (bdC x) _ Tryz.underlying55 rfl (sz_Bond _) Hnew.out ?_;(· go_simp);(· exact ⟨rfl,rfl⟩))
     iterate 3 · (go_simp;exact ⟨rfl,rfl⟩)
     ·(simp only [wantedL_none,↓reduceIte,gZ,gS];refine yr_load 55 (.tmp 22) (by rfl) ⟨bb,bo + k * 4,none⟩ ?_ (bdC y) _ Tryz.underlying55 rfl (sz_Bond _) Hold.out ?_;(· go_simp);(· exact ⟨rfl,rfl⟩))
     ·(go_simp;exact ⟨rfl,rfl⟩)
    intro σ hp
    simp only [gZ,gS,mC,mN,preF_cons,preF_nil,isV,and_true] at hp
    simp only [dS,List.drop_zero]
    go_simp
    clear hp
    cases r with
    | true =>
     have hxy : x = y:=by simpa [eqB] using Hr.out
     have Hxy:=Lib.hid hxy
     clear hxy
     go_simp
     refine ⟨rfl,?_⟩
     go_wp2
     go_roundw
     case rel => exact ⟨k + 1,by omega,by go_num,by rw [Hs.out,Hs'.out,Heq.out,Hxy.out],(Hbel.out.alloc hsz _).drew⟩
     case measure => simp [Go.RowKit.intOf];omega
    | false =>
     have hxy : x ≠ y:=by intro e;have:=Hr.out;rw [e,eqB_self] at this;cases this
     have Hf:=Lib.hid (eqB_ne (Hne.out hxy))
     clear hxy
     go_simp
     refine ⟨rfl,?_⟩
     go_wp2
     go_ret
     exact ⟨by rw [Hf.out];rfl,(Hbel.out.alloc hsz _).drew⟩
   ·have he : l = l':=by
     have:=Heq.out
     rwa [List.take_of_length_le (by omega),List.take_of_length_le (by have:=Hlen.out;omega)] at this
    have Hf : Hid (eqB l l' = true):=by rw [he];exact eqB_self _
    clear he
    go_wp2
    go_ret
    exact ⟨by rw [Hf.out];rfl,hbel⟩
 ·have hb : ((l.length : Int) != (l'.length : Int)) = true:=by simp;omega
  have Hf:=Lib.hid (eqB_ne (fun e : l = l' => hlen (congrArg List.length e)))
  clear hlen
  go_enter Tryz.func21,Tryz.ntmps21
  go_wp2
  go_ret
  exact ⟨by rw [Hf.out];rfl,Below.refl _ _⟩
end Go.Proofs.YtoheblfpjinmnaaGreatDoor
namespace Go.Proofs.YtoheblfpjinmnaaGreatDoor
open Go Go.RowKit
attribute [local go_sem] AllFrom.cons_eq AllFrom.nil_eq putF_nil putF_cons wantedL_none wantedL_some OpGoalT OpGoalV OpGoalQ OpGoalA OpGoalK YieldsR preF_nil preF_cons
section
variable {vg vl vr : Value} {Lo : Nat} {Z : List Nat} {f q : Nat} {B B' : List Bd} {w : World}
theorem radopt_any (hO : FamOk B) (hl : B.length ≤ 1200000000000) {F : List Nat} (h : RepB vg vl vr w q B F) (s g t u : Int) : Calls Tryz.prog 64 #[.pointer (some ⟨q,0,none⟩),.agg #[.int .i64 s,.int .i64 g],.agg #[.int .i64 t,.int .i64 u]] w (RFRet vg vl vr (adoB B (s,g) (t,u)) (.int .i64 (adoE B (s,g) (t,u))) q F w):=by
 by_cases e : (s,g) = (t,u)
 ·obtain ⟨rfl,rfl⟩:=Prod.mk.inj e
  rw [show adoB B (s,g) (s,g) = B by unfold adoB;rw [if_pos (Up.refl _)],show adoE B (s,g) (s,g) = 8 by unfold adoE;rw [if_pos (Up.refl _)]]
  exact radopt_same h s g
 ·exact radopt_diff hO hl h s g t u e
end
end Go.Proofs.YtoheblfpjinmnaaGreatDoor
namespace Go.Proofs.YtoheblfpjinmnaaGreatDoor
open Go Go.RowKit Go.Maps Go.Sort
attribute [local go_sem] AllFrom.cons_eq AllFrom.nil_eq putF_nil putF_cons wantedL_none wantedL_some OpGoalT OpGoalV OpGoalQ OpGoalA OpGoalK YieldsR preF_nil preF_cons
section
variable {w : World} {f : Nat} {B : List Bd} {F : List Nat}
end
end Go.Proofs.YtoheblfpjinmnaaGreatDoor
namespace Go.Proofs.YtoheblfpjinmnaaGreatDoor
open Go Go.RowKit Go.Maps
attribute [local go_sem] AllFrom.cons_eq AllFrom.nil_eq putF_nil putF_cons wantedL_none wantedL_some OpGoalT OpGoalV OpGoalQ OpGoalA OpGoalK YieldsR preF_nil preF_cons
section
variable {w0 V V' : World} {base : Nat} {v : Value} {M : List Hd} {x : Hd} {L : Nat → Bool} {σ : Nat → Value}
end
section
variable {f : Nat} {B : List Bd} {F : List Nat}
end
end Go.Proofs.YtoheblfpjinmnaaGreatDoor
namespace Go.Proofs.YtoheblfpjinmnaaGreatDoor
open Go Go.RowKit
variable {vB : Value}
attribute [local go_sem] AllFrom.cons_eq AllFrom.nil_eq putF_nil putF_cons wantedL_none wantedL_some OpGoalT OpGoalV OpGoalQ YieldsR preF_nil preF_cons
end Go.Proofs.YtoheblfpjinmnaaGreatDoor
namespace Go.Proofs.YtoheblfpjinmnaaGreatDoor
open Go Go.RowKit Go.Shelf Go.Maps Go.Sort
section
variable {w : World} {b : Nat} {l : List (Nat × Nat)}
end
end Go.Proofs.YtoheblfpjinmnaaGreatDoor
namespace Go.Proofs.YtoheblfpjinmnaaGreatDoor
open Go Go.RowKit
section
variable {sl : Sl} {L : List Rw} {tb : List (Nat × Nat)} {rw : Nat → List Rw} {pl : List Pl}
end
end Go.Proofs.YtoheblfpjinmnaaGreatDoor
namespace Go.Proofs.YtoheblfpjinmnaaGreatDoor
open Go Go.RowKit Go.Shelf Go.Sort
attribute [local go_sem] AllFrom.cons_eq AllFrom.nil_eq putF_nil putF_cons wantedL_none wantedL_some OpGoalT OpGoalV OpGoalQ OpGoalA OpGoalK YieldsR preF_nil preF_cons
section
variable {sl : Sl} {L : List Rw} {tb : List (Nat × Nat)} {rw : Nat → List Rw} {pl : List Pl}
end
end Go.Proofs.YtoheblfpjinmnaaGreatDoor
namespace Go.Proofs.YtoheblfpjinmnaaGreatDoor
open Go Go.RowKit
attribute [local go_sem] AllFrom.cons_eq AllFrom.nil_eq putF_nil putF_cons wantedL_none wantedL_some OpGoalT OpGoalV OpGoalQ OpGoalA OpGoalK YieldsR preF_nil preF_cons
end Go.Proofs.YtoheblfpjinmnaaGreatDoor
namespace Go.Proofs.YtoheblfpjinmnaaGreatDoor
open Go Go.RowKit
def RepV (z p f : Nat) (sl : Sl) (L : List Rw) (B : List Bd) (w : World) (F : List Nat) : Prop :=
 w.heap[z]? = some (.cells #[.pointer (some ⟨p,0,none⟩),.pointer (some ⟨f,0,none⟩)] 100 (0,0)) ∧
  ∃ FW FF,RepW w p sl L FW ∧ RepF w f B FF ∧ F = z :: (FW ++ FF) ∧ z ∉ FW ∧ z ∉ FF ∧ ∀ y ∈ FW,y ∉ FF
section
variable {z p f : Nat} {sl sl' : Sl} {L L' : List Rw} {B B' : List Bd} {w w' : World} {F G : List Nat}
theorem RepV.mod (h : RepV z p f sl L B w F) (hm : Mod G w w') (hd : ∀ y ∈ F,y ∉ G) : RepV z p f sl L B w' F:=by
 obtain ⟨h1,FW,FF,h2,h3,rfl,h4,h5,h6⟩:=h
 exact ⟨hm.keep h1 (hd z (by simp)),FW,FF,h2.mod hm (fun y hy => hd y (by simp [hy])),h3.mod hm (fun y hy => hd y (by simp [hy])),rfl,h4,h5,h6⟩
theorem RepV.below (h : RepV z p f sl L B w F) (hb : Below w.heap.size w w') : RepV z p f sl L B w' F:=h.mod (Mod.ofBelow hb) (by simp)
theorem RepV.lt (h : RepV z p f sl L B w F) : ∀ y ∈ F,y < w.heap.size:=by
 obtain ⟨h1,FW,FF,h2,h3,rfl,-⟩:=h
 intro y hy
 rcases List.mem_cons.1 hy with rfl | hy
 ·exact blk_lt h1
 ·rcases List.mem_append.1 hy with hy | hy
  ·exact h2.lt y hy
  ·exact h3.lt y hy
theorem own_V (z p f : Nat) (sl : Sl) (L : List Rw) (B : List Bd) : Own (RepV z p f sl L B):=⟨fun h hm hd => h.mod hm hd,fun h => h.lt⟩
theorem RepV.w_ (h : RepV z p f sl L B w F) : ∃ FW,RepW w p sl L FW:=by obtain ⟨-,FW,FF,h2,-⟩:=h;exact ⟨FW,h2⟩
theorem RepV.f_ (h : RepV z p f sl L B w F) : ∃ FF,RepF w f B FF:=by obtain ⟨-,FW,FF,-,h3,-⟩:=h;exact ⟨FF,h3⟩
theorem RepV.slots (h : RepV z p f sl L B w F) : ∃ ps FS,w.cell? ⟨p,0,none⟩ = some (.pointer (some ⟨ps,0,none⟩)) ∧ p < w.heap.size ∧ RepS w ps sl FS:=by
 obtain ⟨FW,h2⟩:=h.w_
 obtain ⟨ps,mt,mp,tb,rw_,pl,FS,Fs,c,h3,-,-,-⟩:=h2
 have e:=blk_cell h3.blk 0
 simp only [eA,eZ] at e
 exact ⟨ps,FS,e,blk_lt h3.blk,h3.sl⟩
theorem RepV.cells (h : RepV z p f sl L B w F) : w.cell? ⟨z,0,none⟩ = some (.pointer (some ⟨p,0,none⟩)) ∧ w.cell? ⟨z,1,none⟩ = some (.pointer (some ⟨f,0,none⟩)) ∧ z < w.heap.size:=by
 refine ⟨?_,?_,blk_lt h.1⟩
 ·rw [blk_cell h.1];rfl
 ·rw [blk_cell h.1];rfl
def VRet (z p f : Nat) (sl : Sl) (L : List Rw) (B : List Bd) (F : List Nat) (w : World) (r : Value) (e : Ending) (w' : World) : Prop:=e = .returned r ∧ OwnPost (RepV z p f sl L B) F w w'
theorem RepV.turnF (h : RepV z p f sl L B w F) : ∃ FF,RepF w f B FF ∧ ∀ w' B' F',RepF w' f B' F' → Turns w FF F' w' → OwnPost (RepV z p f sl L B') F w w':=by
 have hlt:=h.lt
 obtain ⟨h1,FW,FF,h2,h3,rfl,h4,h5,h6⟩:=h
 refine ⟨FF,h3,fun w' B' F' a b => ⟨z :: (FW ++ F'),⟨b.mod.keep h1 h5,FW,F',h2.mod b.mod (fun y hy => h6 y hy),a,rfl,h4,?_,?_⟩,b.mod.mono (by intro y hy;simp [hy]),?_⟩⟩
 ·intro e
  rcases b.new z e with e | e
  ·exact h5 e
  ·have:=hlt z (by simp);omega
 ·intro y hy e
  rcases b.new y e with e2 | e2
  ·exact h6 y hy e2
  ·have:=hlt y (by simp [hy]);omega
 ·intro y hy
  rcases List.mem_cons.1 hy with rfl | hy
  ·exact .inl (by simp)
  ·rcases List.mem_append.1 hy with hy | hy
   ·exact .inl (by simp [hy])
   ·rcases b.new y hy with e2 | e2
    ·exact .inl (by simp [e2])
    ·exact .inr e2
theorem OwnPost.ofBelow {A : World → List Nat → Prop} (hA : Own A) {F : List Nat} {w w' : World} (h : A w F) (hb : Below w.heap.size w w') : OwnPost A F w w':=⟨F,hA.mod h (Mod.ofBelow hb) (by simp),Turns.ofBelow hb⟩
theorem OwnPost.after {A : World → List Nat → Prop} {F : List Nat} {w w' w'' : World} (hb : Below w.heap.size w w') (h : OwnPost A F w' w'') : OwnPost A F w w'':=by
 obtain ⟨F',h1,h2⟩:=h
 exact ⟨F',h1,Turns.after hb h2⟩
theorem OwnPost.mod {A : World → List Nat → Prop} {F : List Nat} {w w' : World} (h : OwnPost A F w w') : Mod F w w':=by obtain ⟨F',-,h2⟩:=h;exact h2.mod
theorem v_adopt (h : RepV z p f sl L B w F) (s g t u : Int) (hc : HdR (s,g)) (hp : HdR (t,u)) :
  Calls Tryz.prog 51 #[.pointer (some ⟨f,0,none⟩),.agg #[.int .i64 s,.int .i64 g],.agg #[.int .i64 t,.int .i64 u]] w (VRet z p f sl L (adoB B (s,g) (t,u)) F w (.int .i64 (adoE B (s,g) (t,u)))):=by
 obtain ⟨FF,h1,h2⟩:=h.turnF
 exact (adopt_any h1 s g t u hc hp).mono fun e w' ⟨he,a,b⟩ => ⟨he,h2 _ _ _ a ⟨b,fun _ h => .inl h⟩⟩
end
def RepQ (q : Nat) (sl : Sl) (L : List Rw) (B : List Bd) (w : World) (F : List Nat) : Prop :=
 ∃ vB FZ,RepZ vB w q sl L FZ ∧ w.ownsRow 0 55 4 vB B.length (B.flatMap bdC) ∧ F = FZ ++ vB.ownBlock.toList ∧ ∀ y ∈ FZ,y ∉ vB.ownBlock.toList
section
variable {q : Nat} {sl sl' : Sl} {L L' : List Rw} {B B' : List Bd} {w w' : World} {F G : List Nat}
theorem RepQ.mod (h : RepQ q sl L B w F) (hm : Mod G w w') (hd : ∀ y ∈ F,y ∉ G) : RepQ q sl L B w' F:=by
 obtain ⟨vB,FZ,h1,h2,rfl,h3⟩:=h
 exact ⟨vB,FZ,h1.mod hm (fun y hy => hd y (by simp [hy])),row_mod h2 hm (fun k hk => hd k (by simp [hk])),rfl,h3⟩
theorem RepQ.lt (h : RepQ q sl L B w F) : ∀ y ∈ F,y < w.heap.size:=by
 obtain ⟨vB,FZ,h1,h2,rfl,h3⟩:=h
 intro y hy
 rcases List.mem_append.1 hy with hy | hy
 ·exact h1.lt y hy
 ·exact row_lt h2 y (by simpa using hy)
theorem RepQ.below (h : RepQ q sl L B w F) (hb : Below w.heap.size w w') : RepQ q sl L B w' F:=h.mod (Mod.ofBelow hb) (by simp)
theorem own_Q (q : Nat) (sl : Sl) (L : List Rw) (B : List Bd) : Own (RepQ q sl L B):=⟨fun h hm hd => h.mod hm hd,fun h => h.lt⟩
def QRet (q : Nat) (sl : Sl) (L : List Rw) (B : List Bd) (F : List Nat) (w : World) (r : Value) (e : Ending) (w' : World) : Prop:=e = .returned r ∧ OwnPost (RepQ q sl L B) F w w'
theorem RepQ.turnB (h : RepQ q sl L B w F) : ∃ vg vl vr FB,RepB vg vl vr w q B FB ∧ ∀ w' B' F',RepB vg vl vr w' q B' F' → Turns w FB F' w' → OwnPost (RepQ q sl L B') F w w':=by
 have hlt:=h.lt
 obtain ⟨vB,FZ,⟨vL,FS,⟨vg,vl,g1,g2,g3,rfl,g4⟩,g5,rfl,g6⟩,h2,rfl,h3⟩:=h
 have hq : q ∉ vB.ownBlock.toList:=h3 q (by simp)
 refine ⟨vg,vl,vL,q :: vB.ownBlock.toList,⟨vB,g1,h2,rfl,hq⟩,fun w' B' F' a b => ?_⟩
 obtain ⟨vB',k1,k2,rfl,k4⟩:=a
 have hn : ∀ y,y ≠ q → (y ∈ (q :: (vg.ownBlock.toList ++ vl.ownBlock.toList)) ++ vL.ownBlock.toList) → y ∉ q :: vB.ownBlock.toList:=fun y hy hm e => by
  rcases List.mem_cons.1 e with e | e
  ·exact hy e
  ·exact h3 y hm e
 have hnd:=List.nodup_append.1 g6
 have hqg : q ∉ vg.ownBlock.toList ++ vl.ownBlock.toList:=(List.nodup_cons.1 g4).1
 refine ⟨((q :: (vg.ownBlock.toList ++ vl.ownBlock.toList)) ++ vL.ownBlock.toList) ++ vB'.ownBlock.toList,⟨vB',_,⟨vL,_,⟨vg,vl,k1,row_mod g2 b.mod (fun k hk => ?_),row_mod g3 b.mod (fun k hk => ?_),rfl,g4⟩,row_mod g5 b.mod (fun k hk => ?_),rfl,g6⟩,k2,rfl,?_⟩,b.mod.mono (by
  intro y hy
  rcases List.mem_cons.1 hy with rfl | hy
  ·exact .inl (by simp)
  ·exact .inl (List.mem_append.2 (.inr hy))),?_⟩
 ·refine hn k ?_ (by simp [hk])
  rintro rfl
  exact hqg (by simp [hk])
 ·refine hn k ?_ (by simp [hk])
  rintro rfl
  exact hqg (by simp [hk])
 ·refine hn k ?_ (by simp [hk])
  rintro rfl
  exact (hnd.2.2 k (by simp) k (by simp [hk])) rfl
 ·intro y hy e
  by_cases ey : y = q
  ·subst ey;exact k4 e
  ·rcases b.new y (List.mem_cons_of_mem _ e) with e2 | e2
   ·exact hn y ey hy e2
   ·have:=hlt y (List.mem_append.2 (.inl hy));omega
 ·intro y hy
  rcases List.mem_append.1 hy with hy | hy
  ·exact .inl (List.mem_append.2 (.inl hy))
  ·rcases b.new y (List.mem_cons_of_mem _ hy) with e2 | e2
   ·rcases List.mem_cons.1 e2 with rfl | e2
    ·exact .inl (by simp)
    ·exact .inl (List.mem_append.2 (.inr e2))
   ·exact .inr e2
theorem RepQ.z_ (h : RepQ q sl L B w F) : ∃ vB FZ,RepZ vB w q sl L FZ:=by obtain ⟨vB,FZ,h1,-⟩:=h;exact ⟨vB,FZ,h1⟩
theorem RepQ.b_ (h : RepQ q sl L B w F) : ∃ vg vl vr FB,RepB vg vl vr w q B FB:=by obtain ⟨vg,vl,vr,FB,h1,-⟩:=h.turnB;exact ⟨vg,vl,vr,FB,h1⟩
theorem q_adopt (h : RepQ q sl L B w F) (hO : FamOk B) (hl : B.length ≤ 60) (s g t u : Int) :
  Calls Tryz.prog 64 #[.pointer (some ⟨q,0,none⟩),.agg #[.int .i64 s,.int .i64 g],.agg #[.int .i64 t,.int .i64 u]] w (QRet q sl L (adoB B (s,g) (t,u)) F w (.int .i64 (adoE B (s,g) (t,u)))):=by
 obtain ⟨vg,vl,vr,FB,h1,h2⟩:=h.turnB
 exact (radopt_any hO (by omega) h1 s g t u).mono fun e w' ⟨he,F',a,b⟩ => ⟨he,h2 _ _ _ a b⟩
theorem q_at (h : RepQ q sl L B w F) (hO : WOk sl L) (s g : Int) :
  Calls Tryz.prog 62 #[.pointer (some ⟨q,0,none⟩),.agg #[.int .i64 s,.int .i64 g]] w (fun e w' => e = .returned (.int .i64 (atI L (s,g))) ∧ Below w.heap.size w w'):=by
 obtain ⟨vB,FZ,h1⟩:=h.z_
 exact at_any h1 hO.len s g
end
end Go.Proofs.YtoheblfpjinmnaaGreatDoor
namespace Go.Proofs.YtoheblfpjinmnaaGreatDoor
open Go Go.RowKit
attribute [local go_sem] AllFrom.cons_eq AllFrom.nil_eq putF_nil putF_cons wantedL_none wantedL_some OpGoalQ YieldsR preF_nil preF_cons
end Go.Proofs.YtoheblfpjinmnaaGreatDoor
