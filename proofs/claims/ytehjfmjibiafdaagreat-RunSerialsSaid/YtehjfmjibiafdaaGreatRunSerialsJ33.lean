import Derived.Test.YtehjfmjibiafdaaGreatRunSerialsJ32
/- A part of the proof that RunSerials returns true. -/
namespace Go.Proofs.YtehjfmjibiafdaaGreat
open Go Go.RowKit
attribute [local go_sem] AllFrom.cons_eq AllFrom.nil_eq putF_nil putF_cons wantedL_none wantedL_some OpGoalT OpGoalV OpGoalQ OpGoalA OpGoalK YieldsR preF_nil preF_cons
section
variable {vg vl vr : Value} {w : World} {q : Nat} {B : List Bd} {F : List Nat}
theorem hasHandle_own {W : World} {v : Value} {l : List Hd} (hl : l.length ≤ 9223372036854775807) (h : W.ownsRow 0 41 2 v l.length (l.flatMap handleC)) (s g : Int) :
  Calls Tryz.prog 84 #[v,.agg #[.int .i64 s,.int .i64 g]] W fun e w' => e = .returned (.bool (hasB l (s,g))) ∧ Below W.heap.size W w':=by
 obtain ⟨A,c,rfl,-,hL⟩:=own_lies h
 exact hasHandle_any A c l s g W hl hL
set_option maxRecDepth 20000 in
set_option maxHeartbeats 8000000 in
theorem radopt_diff (hO : FamOk B) (hl : B.length ≤ 1200000000000) (h : RepB vg vl vr w q B F) (s g t u : Int) (hne : (s,g) ≠ (t,u)) : Calls Tryz.prog 34 #[.pointer (some ⟨q,0,none⟩),.agg #[.int .i64 s,.int .i64 g],.agg #[.int .i64 t,.int .i64 u]] w (RFRet vg vl vr (adoB B (s,g) (t,u)) (.int .i64 (adoE B (s,g) (t,u))) q F w):=by
 obtain ⟨w0,hw0,hb0,hz0,hs0⟩:=box1 w (.cells #[.int .i64 s,.int .i64 g] 41)
 obtain ⟨w1,hw1,hb1,hz1,hs1⟩:=box1 w0 (.cells #[.int .i64 t,.int .i64 u] 41)
 have hz01:=(Mod.ofBelow hb1).keep hz0 (by simp)
 have hB1:=hb0.trans (hb1.mono hb0.size)
 have heq:=fun w => eqlHandle w s g t u
 simp only [eqB_ne hne] at heq
 have h1:=h.below hB1
 have hun:=fun V (hb : Below w1.heap.size w1 V) => runder_any hO hl (lowN B) s g V (lowN_spec hO.ac _) (h1.below hb)
 have hul:=underN_len hO (lowN_spec hO.ac (s,g))
 have hup : hasB (underN B (lowN B) (s,g)) (t,u) = true ↔ Up B (t,u) (s,g):=by
  rw [hasB_iff,← mem_underB hO]
  exact ⟨fun h => .inr h,fun h => h.resolve_left hne⟩
 generalize underN B (lowN B) (s,g) = un at *
 obtain ⟨q0,q1,ql⟩:=cells2 hz01
 obtain ⟨y0,y1,yl⟩:=cells2 hz1
 obtain ⟨Hun,Hul,HUP,HZ1,HB1,Hz01,Hz1,H,Hl,HO⟩:=hid10 hun hul hup h1 hB1 hz01 hz1 h hl hO
 clear hun hul hup h1 hB1 hz01 hz1 h hl hO
 clear hb0 hz0 hs0 hb1 hs1
 go_enter Tryz.func34,Tryz.ntmps34
 go_wp2_with fail
 clear hw0 hw1 q0 q1 ql y0 y1 yl
 refine wp_planK [6] 8 [] [some 9,some 10,some 11,some 12,some 13,some 14,some 15,some 16,some 17,some 18] [[],[],[0,1],[0,1,2],[0,1,2,3],[0,1,2,3],[0,1,2,3,4,5],[0,1,2,3],[0,1,2,3,4,5,6,7],[0,1,2,3,4,5,6,7,8]] [0,1,2,3,4,5,6,7] (fun Lf σ V => IUnd w1 un Lf σ V) mixed rfl (by kernel_rfl) (by decide) (by decide) (by decide) (IUnd.start below_drew) rfl ?_
 iterate 8 apply Exists.intro
 refine ⟨rfl,?_,?_⟩
 ·simp only [tS,List.take_zero,AllFrom.cons_eq,AllFrom.nil_eq,OpGoalK]
  refine ⟨?_,?_,?_,?_,?_,?_,?_,?_,trivial⟩
  all_goals (intro L' σ V h1 h2 h3 hI hp;have HA1:=Lib.hid h1;have HA2:=Lib.hid h2;have HA3:=Lib.hid h3;clear h1 h2 h3;(try simp only [gZ,gS,preK_cons,preK_nil] at hp);(try simp only [List.mem_cons,List.not_mem_nil,or_false,eq_self,Nat.reduceEqDiff,Nat.reduceAdd,Nat.zero_add,false_or,true_or,true_and,and_true] at hp);(first | (have hq : True:=hp;clear hq hp) | skip);have HI:=Lib.hid hI;clear hI)
  all_goals (
   have hzV:=(Mod.ofBelow HI.out.b).keep Hz01.out (by simp)
   have hyV:=(Mod.ofBelow HI.out.b).keep Hz1.out (by simp)
   have q0:=blk_cell hzV 0
   have q1:=blk_cell hzV 1
   simp only [eA,eZ,eS] at q0 q1
   have ql:=blk_lt hzV
   have y0:=blk_cell hyV 0
   have y1:=blk_cell hyV 1
   simp only [eA,eZ,eS] at y0 y1
   have yl:=blk_lt hyV
   clear hzV hyV)
  iterate 6 · (go_simp;exact ⟨.inr rfl,HI.out.read (by decide) _⟩)
  ·go_simp
   refine (Hun.out V HI.out.b).mono ?_
   rintro e V' ⟨v,rfl,hv,hb⟩
   exact ⟨_,rfl,PostK.mk (c:=undef) (.inl (by decide)) (HI.out.got hb (row_base hv (fun k _ => Nat.zero_le k)))⟩
  ·(go_simp;exact ⟨.inr rfl,HI.out.read (by decide) _⟩)
 ·intro L' σ V h1 hI hp
  have h6:=hI.r (h1 6 (by decide))
  have hbV:=hI.b
  clear h1 hI
  simp only [preK_cons,preK_nil,gZ,gS] at hp;simp only [List.mem_cons,List.not_mem_nil,or_false,eq_self,Nat.reduceEqDiff,false_or,true_or,true_and,and_true] at hp
  have HH:=Lib.hid (hasHandle_own (by have:=Hul.out;have:=Hl.out;omega) h6 t u)
  have hZV:=HZ1.out.below hbV
  have hzV:=(Mod.ofBelow hbV).keep Hz01.out (by simp)
  have hyV:=(Mod.ofBelow hbV).keep Hz1.out (by simp)
  have hBV:=HB1.out.trans (hbV.mono HB1.out.size)
  obtain ⟨HZV,HzV,HyV,HBV⟩:=hid4 hZV hzV hyV hBV
  clear hZV hzV hyV hBV
  clear h6 hbV
  simp only [dS,List.drop_zero]
  go_simp
  clear hp
  generalize σ 6 = v6 at *
  go_wp2_with fail
  refine HH.out.mono ?_
  rintro e w2 ⟨rfl,hb2⟩
  have hBw2:=HBV.out.trans (hb2.mono HBV.out.size)
  cases hh : hasB un (t,u) with
  | true =>
   have hfin : RFRet vg vl vr (adoB B (s,g) (t,u)) (.int .i64 (adoE B (s,g) (t,u))) q F w (.returned (.int .i64 8)) w2:=by
    have hu:=HUP.out.1 hh
    have e1 : adoB B (s,g) (t,u) = B:=by unfold adoB;rw [if_pos hu]
    have e2 : adoE B (s,g) (t,u) = 8:=by unfold adoE;rw [if_pos hu]
    rw [e1,e2]
    exact ⟨rfl,F,H.out.below hBw2,Turns.same hBw2⟩
   have Hfin:=Lib.hid hfin
   clear hfin
   clear hb2 hBw2 hh
   go_wp2
   refine ⟨rfl,?_⟩
   go_wp2
   refine bodyPost_ret (v:=.int .i64 8) (by unfold results;try go_simp) rfl ?_
   exact Hfin.out
  | false =>
   have hnu : ¬ Up B (t,u) (s,g):=fun hu => by rw [HUP.out.2 hu] at hh;cases hh
   have hZ2:=HZV.out.below hb2
   have hz2:=(Mod.ofBelow hb2).keep HzV.out (by simp)
   have hy2:=(Mod.ofBelow hb2).keep HyV.out (by simp)
   obtain ⟨A,cap,hq,hrow⟩:=hZ2.open_
   have H3:=Lib.hid (withoutAdopt_any hrow Hl.out s g w.heap.size hz2)
   obtain ⟨c0,c1,c2,c3,cl⟩:=cells4 hq
   obtain ⟨HZ2,Hz2,Hy2,Hq,Hnu,HBw2⟩:=hid6 hZ2 hz2 hy2 hq hnu hBw2
   clear hZ2 hz2 hy2 hq hnu hBw2
   clear hb2 hrow hh
   go_wp2_with fail
   refine ⟨rfl,?_⟩
   go_wp2_with fail
   clear c0 c1 c2 c3 cl
   refine H3.out.mono ?_
   rintro e w3 ⟨v,rfl,hv,hb3⟩
   have hB : (outB B (s,g)).length ≤ 1200000000000:=by
    have h1 : (outB B (s,g)).length ≤ B.length:=List.length_filter_le _ _
    have:=Hl.out
    omega
   have hat:=fun k => @insB_at B ((s,g),(t,u)) k
   simp only at hat
   have hv0 : w3.ownsRow 0 84 4 v (outB B (s,g)).length ((outB B (s,g)).flatMap bdC):=row_base hv (fun k _ => Nat.zero_le k)
   have hins : adoB B (s,g) (t,u) = insB B ((s,g),(t,u)):=by unfold adoB;rw [if_neg Hnu.out]
   have hinE : adoE B (s,g) (t,u) = 0:=by unfold adoE;rw [if_neg Hnu.out]
   have hz3:=(Mod.ofBelow hb3).keep Hz2.out (by simp)
   have hy3:=(Mod.ofBelow hb3).keep Hy2.out (by simp)
   have hZ3:=HZ2.out.below hb3
   have hq3:=(Mod.ofBelow hb3).keep Hq.out (by simp)
   have hBw3:=HBw2.out.trans (hb3.mono HBw2.out.size)
   generalize outB B (s,g) = l at *
   obtain ⟨A3,cap3,rfl,-,-⟩:=row_slice hv0
   obtain ⟨Hat,Hv,Hins,HinE,Hz3,Hy3,HZ3,HBw3,HLB,Hq3⟩:=hid10 hat hv0 hins hinE hz3 hy3 hZ3 hBw3 hB hq3
   clear hat hv0 hins hinE hz3 hy3 hZ3 hBw3 hB hq3
   clear hb3 hv
   go_wp2_with fail
   go_loopw [8] (fun i wr => ∃ k : Nat,k ≤ l.length ∧ i = .int .i64 k ∧ (∀ j (h : j < l.length),j < k → ltH l[j].1 (s,g) = true) ∧ Below w3.heap.size w3 wr) (fun i _ => l.length - (Go.RowKit.intOf i).toNat)
   case atStart => exact ⟨0,by omega,rfl,fun j h hj => by omega,Below.refl _ _⟩
   case round =>
    obtain ⟨k,hk,rfl,hno,hbel⟩:=hrel
    have hsz:=hbel.size
    have hzr:=(Mod.ofBelow hbel).keep Hz3.out (by simp)
    have hyr:=(Mod.ofBelow hbel).keep Hy3.out (by simp)
    have hrow:=row_mod Hv.out (Mod.ofBelow hbel) (by simp)
    have hl63 : l.length ≤ 9223372036854775807:=by have:=HLB.out;omega
    obtain ⟨q0,q1,ql⟩:=cells2 hzr
    by_cases hgo : ∃ h : k < l.length,ltH l[k].1 (s,g) = true
    ·obtain ⟨hlt,hgo⟩:=hgo
     obtain ⟨g0,cap0,cur0,hv,-,-,-⟩:=row_some hrow (by omega)
     cases hv
     obtain ⟨g0',cap',e,hcell⟩:=row_rec bdC_len hrow hlt
     cases e
     have c3:=hcell 0 (.int .i64 l[k].1.1) rfl
     have c4:=hcell 1 (.int .i64 l[k].1.2) rfl
     rw [Nat.add_zero] at c3
     have hgl:=row_lt hrow g0 rfl
     have hno2 : ∀ j (h : j < l.length),j < k + 1 → ltH l[j].1 (s,g) = true:=by
      intro j h1 h2
      rcases Nat.lt_or_eq_of_le (Nat.lt_succ_iff.1 h2) with h3 | rfl
      ·exact hno j h1 h3
      ·exact hgo
     have hki : (k : Int) < (l.length : Int):=by omega
     have HLs:=Lib.hid (less_any l[k].1.1 l[k].1.2 s g)
     have hgo' : ltH (l[k].1.1,l[k].1.2) (s,g) = true:=hgo
     generalize l[k].1.1 = z0 at *
     generalize l[k].1.2 = z1 at *
     rw [hgo'] at HLs
     have hb2:=hbel.drew
     obtain ⟨Hno2,Hb2⟩:=hid2 hno2 hb2
     clear hno2 hb2
     clear hno hbel hzr hyr hrow hcell hgo hgo'
     go_wp2_with fail
     refine wp_planR 11 [0,1] [some 25,some 26,some 27,some 28,some 29,some 30,some 31,some 32,some 33,some 34,some 35,some 36,some 37] [[],[],[1],[0,1,2],[0,1,2,3],[0,1,2,3,4],[0,1,2,3,4],[0,1,2,3,4,5,6],[0,1,2,3,4,5,6,7],[0,1,2,3,4,5,6,7,8],[0,1,2,3,4],[0,1,2,3,4,5,6,7,8,9,10],[0,1,2,3,4,5,6,7,8,9,10,11]] [0,1,2,3,4,5,6,7,8,9,10] mixed rfl (by kernel_rfl) (by decide) (by decide) rfl ?_
     iterate 11 apply Exists.intro
     refine ⟨rfl,?_,?_⟩
     ·simp only [tS,List.take_zero,AllFrom.cons_eq,AllFrom.nil_eq,OpGoalQ]
      refine ⟨?_,?_,?_,?_,?_,?_,?_,?_,?_,?_,?_,trivial⟩
      all_goals (intro σ hp;(try simp only [gZ,gS,mC,mN,preF_cons,preF_nil,isV,and_true] at hp);(first | (have hq : True:=hp;clear hq hp) | skip))
      all_goals (go_simp;exact ⟨rfl,rfl⟩)
     intro σ hp
     simp only [gZ,gS,mC,mN,preF_cons,preF_nil,isV,and_true] at hp
     simp only [dS,List.drop_zero]
     go_simp
     clear hp
     go_wp2_with fail
     refine (HLs.out _).mono ?_
     rintro e w5 ⟨rfl,hb5⟩
     have hb25:=Hb2.out.trans (hb5.mono Hb2.out.size)
     have Hb25:=Lib.hid hb25
     clear hb25
     clear hb5 q0 q1 ql c3 c4
     go_wp2_with fail
     refine ⟨rfl,?_⟩
     go_wp2
     go_roundw
     case rel => exact ⟨k + 1,by omega,by go_num,Hno2.out,Hb25.out⟩
     case measure => simp [Go.RowKit.intOf];omega
    ·have hins2:=Hat.out k hk hno (fun h => by
      cases e : ltH l[k].1 (s,g) with
      | false => rfl
      | true => exact absurd ⟨h,e⟩ hgo)
     have hlB:=HLB.out
     have hZr:=HZ3.out.below hbel
     have hBr:=HBw3.out.trans (hbel.mono HBw3.out.size)
     obtain ⟨Hins2,Hbel,HZr,HBr,Hzr,Hyr,Hrow,Hno⟩:=hid8 hins2 hbel hZr hBr hzr hyr hrow hno
     clear hins2 hbel hZr hBr hzr hyr hrow hno
     have Hk:=Lib.hid hk
     rcases Nat.lt_or_ge k l.length with hlt | hlt
     case' inl =>
      have hgo' : ltH (l[k].1.1,l[k].1.2) (s,g) = false:=by
       cases e : ltH (l[k].1.1,l[k].1.2) (s,g) with
       | false => rfl
       | true => exact absurd ⟨hlt,e⟩ hgo
      have hrow:=Hrow.out
      obtain ⟨g0,cap0,cur0,hv,-,-,-⟩:=row_some hrow (by omega)
      cases hv
      obtain ⟨g0',cap',e,hcell⟩:=row_rec bdC_len hrow hlt
      cases e
      have c3:=hcell 0 (.int .i64 l[k].1.1) rfl
      have c4:=hcell 1 (.int .i64 l[k].1.2) rfl
      rw [Nat.add_zero] at c3
      have hgl:=row_lt hrow g0 rfl
      have hki : (k : Int) < (l.length : Int):=by omega
      have HLs:=Lib.hid (less_any l[k].1.1 l[k].1.2 s g)
      generalize l[k].1.1 = z0 at *
      generalize l[k].1.2 = z1 at *
      rw [hgo'] at HLs
      clear hcell hgo hgo' hrow
      go_wp2_with fail
      refine wp_planR 11 [0,1] [some 25,some 26,some 27,some 28,some 29,some 30,some 31,some 32,some 33,some 34,some 35,some 36,some 37] [[],[],[1],[0,1,2],[0,1,2,3],[0,1,2,3,4],[0,1,2,3,4],[0,1,2,3,4,5,6],[0,1,2,3,4,5,6,7],[0,1,2,3,4,5,6,7,8],[0,1,2,3,4],[0,1,2,3,4,5,6,7,8,9,10],[0,1,2,3,4,5,6,7,8,9,10,11]] [0,1,2,3,4,5,6,7,8,9,10] mixed rfl (by kernel_rfl) (by decide) (by decide) rfl ?_
      iterate 11 apply Exists.intro
      refine ⟨rfl,?_,?_⟩
      ·simp only [tS,List.take_zero,AllFrom.cons_eq,AllFrom.nil_eq,OpGoalQ]
       refine ⟨?_,?_,?_,?_,?_,?_,?_,?_,?_,?_,?_,trivial⟩
       all_goals (intro σ hp;(try simp only [gZ,gS,mC,mN,preF_cons,preF_nil,isV,and_true] at hp);(first | (have hq : True:=hp;clear hq hp) | skip))
       all_goals (go_simp;exact ⟨rfl,rfl⟩)
      intro σ hp
      simp only [gZ,gS,mC,mN,preF_cons,preF_nil,isV,and_true] at hp
      simp only [dS,List.drop_zero]
      go_simp
      clear hp
      go_wp2_with fail
      refine (HLs.out _).mono ?_
      rintro e w5 ⟨rfl,hb5⟩
      have hb35 : Below wr.heap.size wr w5:=below_drew.trans hb5
      have Hb35:=Lib.hid hb35
      clear hb35
      clear hb5 q0 q1 ql c3 c4 hki hgl hlt
      go_wp2_with fail
      refine ⟨rfl,?_⟩
      go_wp2_with fail
     case' inr =>
      have hki : decide (k < l.length) = false:=by simp;omega
      have hb35 : Below wr.heap.size wr wr.drew:=below_drew
      have Hb35:=Lib.hid hb35
      clear hb35
      clear hgo
      go_wp2_with fail
      refine wp_planR 11 [0,1] [some 25,some 26,some 27,some 28,some 29,some 30,some 31,some 32,some 33,some 34,some 35,some 36,some 37] [[],[],[1],[0,1,2],[0,1,2,3],[0,1,2,3,4],[0,1,2,3,4],[0,1,2,3,4,5,6],[0,1,2,3,4,5,6,7],[0,1,2,3,4,5,6,7,8],[0,1,2,3,4],[0,1,2,3,4,5,6,7,8,9,10],[0,1,2,3,4,5,6,7,8,9,10,11]] [0,1,2,3,4,5,6,7,8,9,10] mixed rfl (by kernel_rfl) (by decide) (by decide) rfl ?_
      iterate 11 apply Exists.intro
      refine ⟨rfl,?_,?_⟩
      ·simp only [tS,List.take_zero,AllFrom.cons_eq,AllFrom.nil_eq,OpGoalQ]
       refine ⟨?_,?_,?_,?_,?_,?_,?_,?_,?_,?_,?_,trivial⟩
       all_goals (intro σ hp;(try simp only [gZ,gS,mC,mN,preF_cons,preF_nil,isV,and_true] at hp);(first | (have hq : True:=hp;clear hq hp) | skip))
       all_goals (go_simp;exact ⟨rfl,rfl⟩)
      intro σ hp
      simp only [gZ,gS,mC,mN,preF_cons,preF_nil,isV,and_true] at hp
      simp only [dS,List.drop_zero]
      go_simp
      clear hp
      generalize wr.drew = w5 at *
      go_wp2_with fail
      refine ⟨rfl,?_⟩
      go_wp2_with fail
      clear hki hlt q0 q1 ql
     all_goals (
      have hrow5:=row_mod Hrow.out (Mod.ofBelow Hb35.out) (by simp)
      obtain ⟨v6,v18,e6,e18,hcp,hap⟩:=slice_splitB hrow5 Hk.out HLB.out
      have hZ5:=HZr.out.below Hb35.out
      have hz5:=(Mod.ofBelow Hb35.out).keep Hzr.out (by simp)
      have hy5:=(Mod.ofBelow Hb35.out).keep Hyr.out (by simp)
      have hB5:=HBr.out.trans (Hb35.out.mono HBr.out.size)
      obtain ⟨A7,cap7,hq5,-⟩:=hZ5.open_
      have hfin : ∀ V v',Below w5.heap.size w5 V → V.ownsRow w5.heap.size 84 4 v' (insB B ((s,g),(t,u))).length ((insB B ((s,g),(t,u))).flatMap bdC) → RFRet vg vl vr (adoB B (s,g) (t,u)) (.int .i64 (adoE B (s,g) (t,u))) q F w (.returned (.int .i64 0)) (V.setCell ⟨q,3,none⟩ v'):=by
       intro V v' hbV hv'
       obtain ⟨F',h4,hT⟩:=hZ5.put hbV hv'
       rw [Hins.out,HinE.out]
       exact ⟨rfl,F',h4,Turns.after hB5 hT⟩
      have Hfin:=Lib.hid hfin;have E6:=Lib.hid e6;have E18:=Lib.hid e18;have HCP:=Lib.hid hcp;have HAP:=Lib.hid hap;have Hq5:=Lib.hid hq5;have Hz5:=Lib.hid hz5;have Hy5:=Lib.hid hy5
      clear hfin e6 e18 hcp hap hq5 hz5 hy5
      clear hrow5 hZ5 hB5
      refine wp_planK [4,8,9,13] 14 [0,1,2,10,11] [some 40,some 41,some 42,some 43,some 44,some 45,some 46,some 47,some 48,some 49,some 50,some 51,some 52,some 53,some 54,some 55,none] [[],[],[],[1,2],[1,2,3],[],[],[5,6],[5,6,7],[1,2,3,4,5,6,7,8],[],[],[10,11],[1,2,3,4,5,6,7,8,9,10,11,12],[0,1,2,3,4,5,6,7,8,9,10,11,12,13],[0,1,2,3,4,5,6,7,8,9,10,11,12,13,14],[0,1,2,3,4,5,6,7,8,9,10,11,12,13,14,15]] [0,1,2,3,4,5,6,7,8,9,10,11,12,13] (fun Lf σ V => IAd w5 (l.take k) (l.drop k) ((s,g),(t,u)) Lf σ V) mixed rfl (by kernel_rfl) (by decide) (by decide) (by decide) (IAd.start below_drew) rfl ?_
      iterate 14 apply Exists.intro
      refine ⟨rfl,?_,?_⟩
      ·simp only [tS,List.take_zero,AllFrom.cons_eq,AllFrom.nil_eq,OpGoalK]
       refine ⟨?_,?_,?_,?_,?_,?_,?_,?_,?_,?_,?_,?_,?_,?_,trivial⟩
       all_goals (intro L' σ V h1 h2 h3 hI hp;have HA1:=Lib.hid h1;have HA2:=Lib.hid h2;have HA3:=Lib.hid h3;clear h1 h2 h3;(try simp only [gZ,gS,preK_cons,preK_nil] at hp);(try simp only [List.mem_cons,List.not_mem_nil,or_false,eq_self,Nat.reduceEqDiff,Nat.reduceAdd,Nat.zero_add,false_or,true_or,true_and,and_true] at hp);(first | (have hq : True:=hp;clear hq hp) | skip);have HI:=Lib.hid hI;clear hI)
       all_goals (
        have hzV:=(Mod.ofBelow HI.out.b).keep Hz5.out (by simp)
        have hyV:=(Mod.ofBelow HI.out.b).keep Hy5.out (by simp)
        have q0:=blk_cell hzV 0
        have q1:=blk_cell hzV 1
        simp only [eA,eZ,eS] at q0 q1
        have ql:=blk_lt hzV
        have y0:=blk_cell hyV 0
        have y1:=blk_cell hyV 1
        simp only [eA,eZ,eS] at y0 y1
        have yl:=blk_lt hyV
        have e6:=E6.out
        have e18:=E18.out
        clear hzV hyV)
       ·(go_simp;exact ⟨.inr rfl,HI.out.read (by decide) _⟩)
       ·(go_simp;exact ⟨.inr rfl,HI.out.read (by decide) _⟩)
       ·(go_simp;exact ⟨.inr rfl,HI.out.read (by decide) _⟩)
       ·(go_simp;exact ⟨.inr rfl,HI.out.read (by decide) _⟩)
       ·go_simp
        refine (HCP.out _ (Mod.ofBelow HI.out.b)).mono ?_
        rintro e V' ⟨v,rfl,hv,hb⟩
        exact ⟨_,rfl,PostK.mk (c:=undef) (.inl (by decide)) (HI.out.copied (HA3.out 13 (by decide)) hb hv (HA3.out 9 (by decide)))⟩
       ·(go_simp;exact ⟨.inr rfl,HI.out.read (by decide) _⟩)
       ·(go_simp;exact ⟨.inr rfl,HI.out.read (by decide) _⟩)
       ·(go_simp;exact ⟨.inr rfl,HI.out.read (by decide) _⟩)
       ·go_simp
        exact PostK.mk (c:=undef) (.inl (by decide)) (HI.out.oned (HA3.out 13 (by decide)) (HA3.out 9 (by decide)))
       ·simp only [wantedL_none,if_true]
        have ha4:=HI.out.c (HA2.out 4 (by decide)) HA1.out
        have ha8:=HI.out.o (HA2.out 8 (by decide)) HA1.out
        have Ha4:=Lib.hid ha4;have Ha8:=Lib.hid ha8
        have Hlen:=Lib.hid (show ((l.take k).length + 1) * 32 ≤ 140737488355328 by rw [List.length_take];omega)
        clear ha4 ha8
        refine yr_app (enc:=bdC) (n:=4) (bytes:=32) (.tmp 44) (.tmp 48) 24 84 rfl Tryz.underlying24 inf_Bond rfl (by omega) (by omega) bdC_one bdC_len w5.heap.size (σ 4) (l.take k) ((s,g),(t,u)) w5.heap.size (bdC ((s,g),(t,u))).toArray 84 (by go_simp) Ha4.out (by go_simp;exact Ha8.out) rfl Hlen.out HI.out.b.size ?_
        intro v' V' hv hg _
        exact PostK.mk (c:=undef) (.inl (by decide)) (HI.out.apped (HA3.out 13 (by decide)) (HA2.out 4 (by decide)) HA1.out hg hv)
       ·(go_simp;exact ⟨.inr rfl,HI.out.read (by decide) _⟩)
       ·(go_simp;exact ⟨.inr rfl,HI.out.read (by decide) _⟩)
       ·(go_simp;exact ⟨.inr rfl,HI.out.read (by decide) _⟩)
       ·obtain ⟨v',V',hr,hv,hg⟩:=HAP.out _ (Mod.ofBelow HI.out.b) 24 _ (σ 9) (l.take k ++ [((s,g),(t,u))]) (HI.out.a (HA2.out 9 (by decide)) HA1.out) (by rw [List.length_append,List.length_take,List.length_singleton];omega) HI.out.b.size
        simp only [wantedL_none,if_true]
        refine yr_appVB (.tmp 49) (.tmp 52) 24 rfl (by go_simp) (by go_simp) hr (PostK.mk (c:=undef) (.inl (by decide)) (HI.out.apped2 HA1.out (HA2.out 9 (by decide)) hg hv))
      ·intro L' σ V h1 hI hp
       have h13:=hI.e (h1 13 (by decide))
       rw [← Hins2.out] at h13
       have hB:=hI.b
       clear h1 hI
       have hFV:=Hfin.out V (σ 13) hB h13
       have hqV:=(Mod.ofBelow hB).keep Hq5.out (by simp)
       have hql:=blk_lt hqV
       have f3:=blk_free hqV 3
       have c3:=blk_cell hqV 3
       simp only [eA,eZ,eS] at c3
       have hsl:=row_slice h13
       have hs1:=Classical.choose_spec hsl
       generalize Classical.choose hsl = A2 at hs1
       have hs2:=Classical.choose_spec hs1
       generalize Classical.choose hs1 = cap2 at hs2
       have hv2:=hs2.1
       have HFV:=Lib.hid hFV
       clear hFV
       clear hsl hs1 hs2 h13 hB hqV
       simp only [preK_cons,preK_nil,gZ,gS] at hp;simp only [List.mem_cons,List.not_mem_nil,or_false,eq_self,Nat.reduceEqDiff,false_or,true_or,true_and,and_true] at hp
       simp only [dS,List.drop_zero]
       go_simp
       clear hp
       generalize σ 13 = v13 at *
       subst hv2
       go_wp2_with fail
       refine ⟨rfl,?_⟩
       go_wp2
       refine bodyPost_ret (v:=.int .i64 0) (by unfold results;try go_simp) rfl ?_
       exact HFV.out)
 all_goals exact undef
end
end Go.Proofs.YtehjfmjibiafdaaGreat
namespace Go.Proofs.YtehjfmjibiafdaaGreat
open Go Go.RowKit
attribute [local go_sem] AllFrom.cons_eq AllFrom.nil_eq putF_nil putF_cons wantedL_none wantedL_some OpGoalQ YieldsR preF_nil preF_cons
set_option maxRecDepth 20000 in
set_option maxHeartbeats 1000000 in
theorem eqBond_any (A : Option Addr) (c : Nat) (A' : Option Addr) (c' : Nat) (l l' : List Bd) (w : World) (hl : l.length ≤ 9223372036854775807) (hl' : l'.length ≤ 9223372036854775807)
  (hA : Lies w w.heap.size A (l.flatMap bdC)) (hA' : Lies w w.heap.size A' (l'.flatMap bdC)) :
  Calls Tryz.prog 36 #[.slice A l.length c,.slice A' l'.length c'] w fun e w' => e = .returned (.bool (eqB l l')) ∧ Below w.heap.size w w':=by
 by_cases hlen : l.length = l'.length
 ·have hb : ((l.length : Int) != (l'.length : Int)) = false:=by simp [hlen]
  have Hlen:=Lib.hid hlen
  clear hlen
  go_enter Tryz.func36,Tryz.ntmps36
  go_wp2
  go_loopw [14] (fun i wr => ∃ k : Nat,k ≤ l.length ∧ i = .int .i64 k ∧ l.take k = l'.take k ∧ Below w.heap.size w wr) (fun i _ => l.length - (Go.RowKit.intOf i).toNat)
  case atStart => exact ⟨0,by omega,rfl,rfl,Below.refl _ _⟩
  case round =>
   obtain ⟨k,hk,rfl,heq,hbel⟩:=hrel
   have Heq:=Lib.hid heq
   clear heq hb
   have hsz:=hbel.size
   by_cases hlt : k < l.length
   ·have hlt' : k < l'.length:=by rw [← Hlen.out];exact hlt
    obtain ⟨ab,ao,rfl,hal,hc⟩:=hA.rec_at bdC_len (by omega) hlt
    obtain ⟨bb,bo,rfl,hbl,hc'⟩:=hA'.rec_at bdC_len (by omega) hlt'
    have hs:=take_succ_get l k hlt
    have hs':=take_succ_get l' k hlt'
    have hne : l[k] ≠ l'[k] → l ≠ l':=by
     intro h e;subst e;exact h rfl
    have hc1 : ∀ j u,(bdC l[k])[j]? = some u → wr.cell? ((⟨ab,ao + k * 4,none⟩ : Addr).add j) = some u:=fun j u hu => by
     have:=(hbel.cell (p:=⟨ab,ao + k * 4 + j,none⟩) hal).trans (hc j u hu)
     rw [Addr.add_mid];exact this
    have hc2 : ∀ j u,(bdC l'[k])[j]? = some u → wr.cell? ((⟨bb,bo + k * 4,none⟩ : Addr).add j) = some u:=fun j u hu => by
     have:=(hbel.cell (p:=⟨bb,bo + k * 4 + j,none⟩) hbl).trans (hc' j u hu)
     rw [Addr.add_mid];exact this
    have hal2 : ab < wr.heap.size:=by omega
    have hbl2 : bb < wr.heap.size:=by omega
    have hin : (k : Int) < (l'.length : Int):=by omega
    generalize l[k] = x at *
    generalize l'[k] = y at *
    obtain ⟨Hs,Hs',Hne,Hc1,Hc2,Hbel⟩:=hid6 hs hs' hne hc1 hc2 hbel
    have he:=fun w => neqBond w x y
    clear hs hs' hne hc hc' hA hA' hc1 hc2 hbel
    generalize hr : eqB x y = r at *
    have Hr:=Lib.hid hr
    clear hr
    have hDa : ∀ u ∈ bdC x,u.oneCell' = true:=bdC_one x
    have HDa:=Lib.hid hDa
    clear hDa
    go_wp2_with (first | (refine wpList_load_flat rfl 84 (.tmp 17) rfl _ rfl (bdC x) _ Tryz.underlying84 rfl (sz_Bond _) Hc1.out ?_) | (refine wpList_store_new rfl 84 (.tmp 6) (.tmp 18) rfl wr (ints [0,0,0,0]) (bdC x) 84 rfl rfl rfl (sz_Bond _) HDa.out ?_))
    have hnew : ∀ j u,(bdC x)[j]? = some u → (wr.alloc (.cells (bdC x).toArray 84)).drew.cell? ((⟨wr.heap.size,0,none⟩ : Addr).add j) = some u:=fun j u hu => new_rec rfl (by simp) j u hu
    have hold : ∀ j u,(bdC y)[j]? = some u → (wr.alloc (.cells (bdC x).toArray 84)).drew.cell? ((⟨bb,bo + k * 4,none⟩ : Addr).add j) = some u:=fun j u hu => by
     have:=Hc2.out j u hu
     rw [Addr.add_mid] at this ⊢
     exact (((Below.refl wr.heap.size wr).alloc (Nat.le_refl _) _).cell (p:=⟨bb,bo + k * 4 + j,none⟩) hbl2).trans this
    obtain ⟨Hnew,Hold⟩:=hid2 hnew hold
    clear hnew hold
    refine wp_planR 6 [1,2] [some 19,some 20,some 21,some 22,some 23,some 24] [[],[],[],[1,2],[1,2,3],[0,1,2,3,4]] [0,1,2,3,4,5] mixed rfl (by kernel_rfl) (by decide) (by decide) rfl ?_
    iterate 6 apply Exists.intro
    refine ⟨rfl,?_,?_⟩
    ·simp only [tS,List.take_zero,AllFrom.cons_eq,AllFrom.nil_eq,OpGoalQ]
     refine ⟨?_,?_,?_,?_,?_,?_,trivial⟩
     all_goals (intro σ hp;(try simp only [gZ,gS,mC,mN,preF_cons,preF_nil,isV,and_true] at hp);(first | (have hq : True:=hp;clear hq hp) | skip))
     ·(simp only [wantedL_none,↓reduceIte,gZ,gS];refine yr_load 84 (.tmp 6) (by rfl) ⟨wr.heap.size,0,none⟩ ?_ (bdC x) _ Tryz.underlying84 rfl (sz_Bond _) Hnew.out ?_;(· go_simp);(· exact ⟨rfl,rfl⟩))
     iterate 3 · (go_simp;exact ⟨rfl,rfl⟩)
     ·(simp only [wantedL_none,↓reduceIte,gZ,gS];refine yr_load 84 (.tmp 22) (by rfl) ⟨bb,bo + k * 4,none⟩ ?_ (bdC y) _ Tryz.underlying84 rfl (sz_Bond _) Hold.out ?_;(· go_simp);(· exact ⟨rfl,rfl⟩))
     ·(go_simp;exact ⟨rfl,rfl⟩)
    intro σ hp
    simp only [gZ,gS,mC,mN,preF_cons,preF_nil,isV,and_true] at hp
    simp only [dS,List.drop_zero]
    go_simp
    clear hp
    cases r with
    | true =>
     have hxy : x = y:=by simpa [eqB] using Hr.out
     have Hxy:=Lib.hid hxy
     clear hxy
     go_simp
     refine ⟨rfl,?_⟩
     go_wp2
     go_roundw
     case rel => exact ⟨k + 1,by omega,by go_num,by rw [Hs.out,Hs'.out,Heq.out,Hxy.out],(Hbel.out.alloc hsz _).drew⟩
     case measure => simp [Go.RowKit.intOf];omega
    | false =>
     have hxy : x ≠ y:=by intro e;have:=Hr.out;rw [e,eqB_self] at this;cases this
     have Hf:=Lib.hid (eqB_ne (Hne.out hxy))
     clear hxy
     go_simp
     refine ⟨rfl,?_⟩
     go_wp2
     go_ret
     exact ⟨by rw [Hf.out];rfl,(Hbel.out.alloc hsz _).drew⟩
   ·have he : l = l':=by
     have:=Heq.out
     rwa [List.take_of_length_le (by omega),List.take_of_length_le (by have:=Hlen.out;omega)] at this
    have Hf : Hid (eqB l l' = true):=by rw [he];exact eqB_self _
    clear he
    go_wp2
    go_ret
    exact ⟨by rw [Hf.out];rfl,hbel⟩
 ·have hb : ((l.length : Int) != (l'.length : Int)) = true:=by simp;omega
  have Hf:=Lib.hid (eqB_ne (fun e : l = l' => hlen (congrArg List.length e)))
  clear hlen
  go_enter Tryz.func36,Tryz.ntmps36
  go_wp2
  go_ret
  exact ⟨by rw [Hf.out];rfl,Below.refl _ _⟩
end Go.Proofs.YtehjfmjibiafdaaGreat
namespace Go.Proofs.YtehjfmjibiafdaaGreat
open Go Go.RowKit
attribute [local go_sem] AllFrom.cons_eq AllFrom.nil_eq putF_nil putF_cons wantedL_none wantedL_some OpGoalT OpGoalV OpGoalQ OpGoalA OpGoalK YieldsR preF_nil preF_cons
section
variable {vg vl vr : Value} {Lo : Nat} {Z : List Nat} {f q : Nat} {B B' : List Bd} {w : World}
theorem radopt_any (hO : FamOk B) (hl : B.length ≤ 1200000000000) {F : List Nat} (h : RepB vg vl vr w q B F) (s g t u : Int) : Calls Tryz.prog 34 #[.pointer (some ⟨q,0,none⟩),.agg #[.int .i64 s,.int .i64 g],.agg #[.int .i64 t,.int .i64 u]] w (RFRet vg vl vr (adoB B (s,g) (t,u)) (.int .i64 (adoE B (s,g) (t,u))) q F w):=by
 by_cases e : (s,g) = (t,u)
 ·obtain ⟨rfl,rfl⟩:=Prod.mk.inj e
  rw [show adoB B (s,g) (s,g) = B by unfold adoB;rw [if_pos (Up.refl _)],show adoE B (s,g) (s,g) = 8 by unfold adoE;rw [if_pos (Up.refl _)]]
  exact radopt_same h s g
 ·exact radopt_diff hO hl h s g t u e
end
end Go.Proofs.YtehjfmjibiafdaaGreat
namespace Go.Proofs.YtehjfmjibiafdaaGreat
open Go Go.RowKit Go.Maps Go.Sort
attribute [local go_sem] AllFrom.cons_eq AllFrom.nil_eq putF_nil putF_cons wantedL_none wantedL_some OpGoalT OpGoalV OpGoalQ OpGoalA OpGoalK YieldsR preF_nil preF_cons
theorem kids_sorted {B : List Bd} (h : SortB B) (x : Hd) : (kidsB B x).Pairwise (fun a b => ltH a b = true):=by
 unfold kidsB
 rw [List.pairwise_map]
 exact h.sublist List.filter_sublist
theorem kids_eq {B C : List Bd} {x : Hd} {l : List Hd} (h : SortB B) (hC : C.Perm B) (hp : l.Perm (kidsB C x)) (hs : l.Pairwise (fun a b => ltH b a = false)) : l = kidsB B x:=by
 have hk:=kids_sorted h x
 have hp2 : l.Perm (kidsB B x):=hp.trans ((hC.filter _).map _)
 have hne : l.Pairwise (fun a b => a ≠ b):=(List.Perm.pairwise_iff (fun h => Ne.symm h) hp2).2 (hk.imp fun h => ltH_ne h)
 have hl : l.Pairwise (fun a b => ltH a b = true):=(hs.and hne).imp (by
  rintro a b ⟨h1,h2⟩
  cases e : ltH a b with
  | true => rfl
  | false => exact absurd (ltH_tri e h1) h2)
 refine List.Perm.eq_of_pairwise (le:=fun a b : Hd => ltH a b = true) (fun a b ha hb h1 h2 => ?_) hl hk hp2
 rw [ltH_asymm h1] at h2;cases h2
theorem kids_app (C D : List Bd) (x : Hd) : kidsB (C ++ D) x = kidsB C x ++ kidsB D x:=by unfold kidsB;rw [List.filter_append,List.map_append]
theorem kids_one (b : Bd) (x : Hd) : kidsB [b] x = if eqB b.2 x = true then [b.1] else []:=by
 unfold kidsB eqB
 by_cases e : b.2 = x <;> simp [e]
theorem kids_len (B : List Bd) (x : Hd) : (kidsB B x).length ≤ B.length:=by
 unfold kidsB
 rw [List.length_map]
 exact List.length_filter_le _ _
section
variable {w : World} {f : Nat} {B : List Bd} {F : List Nat}
set_option maxRecDepth 20000 in
set_option maxHeartbeats 4000000 in
theorem fkids_any (h : RepF w f B F) (hB : B.length ≤ 1200000000000) (s g : Int) : Calls Tryz.prog 138 #[.pointer (some ⟨f,0,none⟩),.agg #[.int .i64 s,.int .i64 g]] w (MadeRecs 41 2 handleC (kidsB B (s,g)) w):=by
 obtain ⟨w0,hw0,hb0,hz0,hs0⟩:=box1 w (.cells #[.int .i64 s,.int .i64 g] 41)
 obtain ⟨ho,hr,m,l,h1,h2,h3,hF,h5⟩:=h.below hb0
 obtain ⟨o,hrun,hR⟩:=h2.range Tryz.underlying115
 obtain ⟨w1,hw1,hb1,-,hs1⟩:=box1 w0 o
 rw [hw1] at hR
 have e0:=blk_cell h1 0
 simp only [eA,eZ] at e0
 have hfl:=blk_lt h1
 have hll : l.length ≤ 1200000000000:=by rw [h3.length_eq];exact hB
 obtain ⟨HR,Hb0,Hb1,Hz0,Hs0,Hs1,Ho,H3,Hll⟩:=hid9 hR hb0 hb1 hz0 hs0 hs1 ho h3 hll
 clear hR hb0 hb1 hz0 hs0 hs1 ho h3 hll
 clear h h1 h2 hr hF h5 hB
 go_enter Tryz.func138,Tryz.ntmps138
 go_wp2_with fail
 clear hrun hw1 hw0 e0 hfl
 go_loopw [5,14] (fun v _ wr => ∃ (D ts : List Bd),RangeAt Tryz.prog 41 wr m w0.heap.size (l.map bdPr) (ts.map bdPr) ∧ (D ++ ts).Perm l ∧ wr.ownsRow w0.heap.size 41 2 v (kidsB D (s,g)).length ((kidsB D (s,g)).flatMap handleC) ∧ Below w0.heap.size w0 wr) (fun _ _ wr => wr.rangeLeft m w0.heap.size)
 case atStart => exact ⟨[],l,HR.out,.refl _,⟨rfl,.inl ⟨rfl,rfl⟩⟩,Hb1.out⟩
 case round =>
  obtain ⟨D,ts,hR,hp,hown,hB⟩:=hrel
  obtain ⟨A,cap,rfl,-,-⟩:=row_slice hown
  have hlen : D.length + ts.length = l.length:=by rw [← List.length_append];exact hp.length_eq
  have hkl:=kids_len D (s,g)
  have hzr:=(Mod.ofBelow hB).keep Hz0.out (by simp)
  by_cases hts : ts = []
  ·subst hts
   have hov:=fun ty => RangeAt.over (P:=Tryz.prog) (by simpa using hR) ty
   simp only [List.append_nil] at hp
   have H1:=Lib.hid (sortHandles_any hown (by have:=Hll.out;simp at hlen;omega))
   obtain ⟨Hp,HB,Hown⟩:=hid3 hp hB hown
   clear hp hB hown
   clear hR hlen hzr
   go_wp2_with fail
   refine H1.out.mono ?_
   rintro e w2 ⟨rfl,l',hp',hs',hown',hmod⟩
   have hl' : l' = kidsB B (s,g):=kids_eq Ho.out.so (Hp.out.trans H3.out) hp' (hs'.imp fun {x y} h => by
    have h : ltOf cmpH y x = false:=h
    rw [ltHd_eq] at h;exact h)
   have hB2 : Below w0.heap.size w0 w2:=HB.out.trans (hmod.toBelow (fun x hx => own_ge Hown.out x (by simpa using hx)) HB.out.size)
   rw [hl'] at hown'
   have hown2:=row_base hown' (B':=w.heap.size) (fun k hk => by have:=own_ge hown' k hk;have:=Hs0.out;omega)
   have hBw:=Hb0.out.trans (hB2.mono Hb0.out.size)
   obtain ⟨HBw,HO2⟩:=hid2 hBw hown2
   clear hBw hown2
   clear hp' hs' hmod hl' hown' hB2
   go_wp2
   refine bodyPost_ret (v:=.slice A (kidsB D (s,g)).length cap) (by unfold results;try go_simp) rfl ?_
   exact ⟨_,rfl,HO2.out,HBw.out⟩
  ·obtain ⟨t1,x,t2,w2,rfl,hn,hen,hx,hR2,hm2,hs2⟩:=hR.nextE hts
   have hmeas:=hR.left_eq
   obtain ⟨⟨c0,c1⟩,p0,p1⟩:=x
   have hne:=own_ne_range hown hR
   have hrl:=hR.lt
   have hown2:=row_mod hown hm2 (fun k hk e => by
    have hk' : k = w0.heap.size:=by simpa using e
    subst hk';exact hne.1 (by rw [hk];simp))
   have hB2 : Below w0.heap.size w0 w2:=hB.trans (hm2.toBelow (by simp) hB.size)
   simp only [bdPr,hdV,handleC] at hn hen
   have hDl : (kidsB D (s,g)).length < 1200000000000:=by have:=Hll.out;simp at hlen;omega
   have hzr2:=hm2.keep hzr (by have:=Hs0.out;simp;omega)
   have hb24 : Below w2.heap.size w2 ((w2.alloc (.cells #[.int .i64 c0,.int .i64 c1] 41)).alloc (.cells #[.int .i64 p0,.int .i64 p1] 41)):=((Below.refl _ _).alloc (Nat.le_refl _) _).alloc (by simp) _
   have hB4:=hB2.trans (hb24.mono hB2.size)
   have hown4:=row_mod hown2 (Mod.ofBelow hb24) (by simp)
   have hR4:=hR2.mod (Mod.ofBelow hb24) (by simp) (by simp)
   have heq:=fun w => eqlHandle w p0 p1 s g
   have hka:=kids_app D [((c0,c1),(p0,p1))] (s,g)
   rw [kids_one] at hka
   simp only at hka
   obtain ⟨q0,q1,ql⟩:=cells2 hzr2
   have HR:=Lib.hid hR;have Hp:=Lib.hid hp;have Hown:=Lib.hid hown;have HB:=Lib.hid hB;have HR2:=Lib.hid hR2;have Hm2:=Lib.hid hm2;have Hs2:=Lib.hid hs2;have Hmeas:=Lib.hid hmeas;have HNe:=Lib.hid hne;have Hown2:=Lib.hid hown2;have HB2:=Lib.hid hB2;have Hx:=Lib.hid hx;have HDl:=Lib.hid hDl;have HR4:=Lib.hid hR4;have Hown4:=Lib.hid hown4;have HB4:=Lib.hid hB4;have Hka:=Lib.hid hka;have HKl:=Lib.hid hkl
   clear hR hp hown hB hR2 hm2 hs2 hmeas hne hown2 hB2 hx hDl hR4 hown4 hB4 hka hkl
   clear hlen hzr hb24 hzr2
   cases hr : eqB (p0,p1) (s,g) with
   | false =>
    rw [hr] at heq
    have Hr:=Lib.hid hr
    clear hr
    go_wp2_with fail
    go_roundw
    case rel =>
     refine ⟨D ++ [((c0,c1),(p0,p1))],t1 ++ t2,HR4.out,(mid_perm D t1 t2 _).symm.trans Hp.out,?_,HB4.out⟩
     rw [Hka.out,if_neg (by rw [Hr.out];simp),List.append_nil]
     exact Hown4.out
    case measure => rw [HR4.out.left_eq,Hmeas.out];simp
   | true =>
    rw [hr] at heq
    have Hr:=Lib.hid hr
    clear hr
    go_wp2_with (at_builtin;refine app_handleG rfl _ _ rfl w0.heap.size (.slice A (kidsB D (s,g)).length cap) (kidsB D (s,g)) (c0,c1) ⟨w2.heap.size + 2,0,none⟩ 1 rfl (Hown4.out.alloc _) rfl (new_rec (by simp) rfl) (by have:=HDl.out;omega) (by have:=HB2.out.size;simp;omega) ?_;intro v' w5 hown5 hg5)
    go_roundw
    case rel =>
     refine ⟨D ++ [((c0,c1),(p0,p1))],t1 ++ t2,?_,(mid_perm D t1 t2 _).symm.trans Hp.out,?_,?_⟩
     ·exact (HR4.out.mod ((Mod.refl [] _).alloc _) (by simp) (by simp)).mod (grown_mod hg5) HNe.out.2 HNe.out.1
     ·rw [Hka.out,if_pos Hr.out];exact hown5
     ·exact (HB4.out.alloc HB4.out.size _).trans ((Below.refl _ _).grown hg5 (by have:=HB2.out.size;simp;omega) (own_ge Hown.out))
    case measure =>
     have h3:=(HR4.out.mod ((Mod.refl [] _).alloc _) (by simp) (by simp)).mod (grown_mod hg5) HNe.out.2 HNe.out.1
     rw [h3.left_eq,Hmeas.out];simp
end
end Go.Proofs.YtehjfmjibiafdaaGreat
