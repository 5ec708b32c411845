import Derived.Test.YtfdillpofciicaaGreatDoorTopSavedJ27
set_option linter.unusedVariables false
set_option linter.unusedSimpArgs false
/- A part of the proof that TopSaved returns true. -/
namespace Go.Proofs.YtfdillpofciicaaGreatDoor
open Go Go.RowKit
attribute [local go_sem] AllFrom.cons_eq AllFrom.nil_eq putF_nil putF_cons wantedL_none wantedL_some OpGoalT OpGoalV OpGoalQ OpGoalA OpGoalK YieldsR preF_nil preF_cons
def ZLdPost (gs : List Int) (rows : List Rw) (bs : List Bd) (w : World) (e : Ending) (w' : World) : Prop :=
 Below w.heap.size w w' ∧ ((zlE gs rows bs ≠ 0 ∧ e = .returned (.tuple #[.pointer none,.int .i64 (zlE gs rows bs)])) ∨
  (zlE gs rows bs = 0 ∧ ∃ z p f F,e = .returned (.tuple #[.pointer (some ⟨z,0,none⟩),.int .i64 0]) ∧ RepV z p f (wlS gs rows) (wlL gs rows) (zlB gs rows bs) w' F ∧ (∀ y ∈ F,w.heap.size ≤ y) ∧ ∀ b ∈ zlB gs rows bs,b.1 ∈ allS (wlS gs rows)))
theorem zld_err {gs : List Int} {rows : List Rw} {bs : List Bd} {w w' : World} {z : Int} (h : zlE gs rows bs = z) (hz : z ≠ 0) (hb : Below w.heap.size w w') : ZLdPost gs rows bs w (.returned (.tuple #[.pointer none,.int .i64 z])) w':=by
 subst h
 exact ⟨hb,.inl ⟨hz,rfl⟩⟩
theorem wload_anyZ {w : World} {A A2 : Option Addr} {c c2 : Nat} {gs : List Int} {rows : List Rw} (hg : gs.length ≤ 9223372036854775807) (hr : rows.length ≤ 9223372036854775807) (hA : Lies w w.heap.size A (ints gs)) (hA2 : Lies w w.heap.size A2 (rows.flatMap rwC)) : Calls Tryz.prog 47 #[.slice A gs.length c,.slice A2 rows.length c2] w (WLPost gs rows w):=by
 by_cases h60 : rows.length ≤ 60
 ·exact wload_in h60 hg hA hA2
 ·exact wload_long (by omega) hr
theorem v_parent {z p f : Nat} {sl : Sl} {L : List Rw} {B : List Bd} {w : World} {F : List Nat} (h : RepV z p f sl L B w F) (s g : Int) (hc : HdR (s,g)) : Calls Tryz.prog 50 #[.pointer (some ⟨f,0,none⟩),.agg #[.int .i64 s,.int .i64 g]] w (fun e w' => e = .returned (.tuple #[hdV (parV (parB B (s,g))),.bool (parB B (s,g)).isSome]) ∧ Below w.heap.size w w'):=by
 obtain ⟨FF,h1⟩:=h.f_
 exact parent_any h1 s g hc
set_option maxRecDepth 20000 in
set_option maxHeartbeats 8000000 in
theorem zload_any {w : World} {A1 A2 A3 : Option Addr} {c1 c2 c3 : Nat} {gs : List Int} {rows : List Rw} {bs : List Bd} (hg : gs.length ≤ 9223372036854775807) (hr : rows.length ≤ 9223372036854775807) (hbl : bs.length ≤ 9223372036854775807)
  (hA1 : Lies w w.heap.size A1 (ints gs)) (hA2 : Lies w w.heap.size A2 (rows.flatMap rwC)) (hA3 : Lies w w.heap.size A3 (bs.flatMap bdC)) (hR : ∀ b ∈ bs,HdR b.1 ∧ HdR b.2) :
  Calls Tryz.prog 14 #[.agg #[.slice A1 gs.length c1,.slice A2 rows.length c2,.slice A3 bs.length c3]] w (ZLdPost gs rows bs w):=by
 obtain ⟨w0,hw0,hb0,hz0,hs0⟩:=box1 w (.cells #[.slice A1 gs.length c1,.slice A2 rows.length c2,.slice A3 bs.length c3] 26)
 have H1:=Lib.hid (wload_anyZ (c:=c1) (c2:=c2) hg hr ((hA1.below hb0).mono hb0.size) ((hA2.below hb0).mono hb0.size))
 obtain ⟨o0,o1,o2,ol⟩:=cells3 hz0
 obtain ⟨Hb0,Hz0,HA3,HR,Hs0⟩:=hid5 hb0 hz0 hA3 hR hs0
 clear hb0 hz0 hA3 hR hs0
 clear hA1 hA2
 go_enter Tryz.func14,Tryz.ntmps14
 go_wp2_with fail
 clear hw0 o0 o1 o2 ol
 refine H1.out.mono ?_
 rintro e w1 ⟨hb1,hcase⟩
 have hb01:=Hb0.out.trans (hb1.mono Hb0.out.size)
 rcases hcase with ⟨hne,rfl⟩ | ⟨he0,p,FW,rfl,hW,hFW⟩
 ·have hfin:=zld_err (bs:=bs) (zlE_bad hne) hne hb01
  have hne' : (wlE gs rows != 0) = true:=by simpa using hne
  generalize wlE gs rows = ze at *
  have Hfin:=Lib.hid hfin
  clear hfin
  clear hb1 hne hb01 H1
  go_wp2_with fail
  refine bodyPost_ret (v:=.tuple #[.pointer none,.int .i64 ze]) (by unfold results;try go_simp) rfl Hfin.out
 have hz1:=(Mod.ofBelow hb1).keep Hz0.out (by simp)
 obtain ⟨Hb01,Hz1,HW,HFW,He0⟩:=hid5 hb01 hz1 hW hFW he0
 clear hb01 hz1 hW hFW he0
 clear H1 hb1
 go_wp2_with fail
 refine (famNew_any w1).mono ?_
 rintro e w2 ⟨f,FF,rfl,hF,hFF,hb2⟩
 obtain ⟨w3,hw3,hb3,hz3,hs3⟩:=box1 w2 (.cells #[.pointer (some ⟨p,0,none⟩),.pointer (some ⟨f,0,none⟩)] 109)
 have hlW:=HW.out.lt;have hlF:=hF.lt
 have hs1:=Hb01.out.size;have hs2:=hb2.size
 have hV3 : RepV w2.heap.size p f (wlS gs rows) (wlL gs rows) [] w3 (w2.heap.size :: (FW ++ FF)):=⟨hz3,FW,FF,(HW.out.below hb2).below hb3,hF.below hb3,rfl,fun e => by have:=hlW _ e;omega,fun e => by have:=hlF _ e;omega,fun y hy e => by have h1:=hlW y hy;have h2:=hFF y e;omega⟩
 have hs0:=Hs0.out
 have hge : ∀ y ∈ w2.heap.size :: (FW ++ FF),w0.heap.size ≤ y:=fun y hy => by
  have hh:=Hb0.out.size
  have hh1 : w0.heap.size ≤ w1.heap.size:=by have:=blk_lt Hz1.out;omega
  rcases List.mem_cons.1 hy with rfl | hy
  ·omega
  ·rcases List.mem_append.1 hy with hy | hy
   ·exact HFW.out y hy
   ·have:=hFF y hy;omega
 have hb03:=(Hb01.out.trans (hb2.mono hs1)).trans (hb3.mono (by omega))
 have hz03:=(Mod.ofBelow hb3).keep ((Mod.ofBelow hb2).keep Hz1.out (by simp)) (by simp)
 have hA33:=Lies.below HA3.out hb03
 obtain ⟨LL,hLL⟩ : ∃ LL,wlL gs rows = LL:=⟨_,rfl⟩
 rw [hLL] at hV3
 obtain ⟨sl,hsl⟩ : ∃ sl,wlS gs rows = sl:=⟨_,rfl⟩
 have hfinE : ∀ B z,loadB sl [] bs = (B,z) → zlE gs rows bs = z ∧ zlB gs rows bs = B:=fun B z h => zlE_run He0.out (by rw [hsl];exact h)
 rw [hsl] at hV3
 generalize hFz : w2.heap.size :: (FW ++ FF) = F3 at *
 obtain ⟨o0,o1,o2,ol⟩:=cells3 hz03
 obtain ⟨HV3,Hge,Hb03,Hz03,HA33,Hsl,HLL,HfinE⟩:=hid8 hV3 hge hb03 hz03 hA33 hsl hLL hfinE
 clear hV3 hge hb03 hz03 hA33 hsl hLL hfinE
 clear hb2 hb3 hz3 hlW hlF hs1 hs2 hF hFF hs0 hFz
 go_wp2_with fail
 clear hw3 o0 o1 o2 ol
 generalize w2.heap.size = z at *
 go_loopw [31] (fun i wr => ∃ (k : Nat) (B : List Bd),k ≤ bs.length ∧ i = .int .i64 k ∧ OwnPost (RepV z p f sl LL B) F3 w3 wr ∧ loadB sl B (bs.drop k) = loadB sl [] bs ∧ (∀ b ∈ B,b.1 ∈ allS sl)) (fun i _ => bs.length - (Go.RowKit.intOf i).toNat)
 case atStart => exact ⟨0,[],by omega,rfl,OwnPost.ofBelow (own_V _ _ _ _ _ _) HV3.out (Below.refl _ _),rfl,by simp⟩
 case round =>
  obtain ⟨k,B,hk,rfl,hOP,hld,hC⟩:=hrel
  have hge' : ∀ y ∈ F3,w.heap.size ≤ y:=fun y hy => Nat.le_trans Hb0.out.size (Hge.out y hy)
  have hbr : Below w.heap.size w wr:=Hb03.out.trans (hOP.mod.toBelow hge' Hb03.out.size)
  by_cases hlt : k < bs.length
  ·obtain ⟨ab,ao,rfl,hal,hc⟩:=HA3.out.rec_at bdC_len (by omega) hlt
   have hq : ∀ j u,(bdC bs[k])[j]? = some u → wr.cell? ((⟨ab,ao + k * 4,none⟩ : Addr).add j) = some u:=fun j u hu => (hbr.cell (p:=(⟨ab,ao + k * 4,none⟩ : Addr).add j) (by rw [add_block];exact hal)).trans (by first | exact hc j u hu | (have:=hc j u hu;rw [Addr.add_mid];exact this))
   have hxr:=HR.out _ (List.getElem_mem hlt)
   have hki : (k : Int) < (bs.length : Int):=by omega
   rw [List.drop_eq_getElem_cons hlt] at hld
   generalize bs[k] = x at *
   obtain ⟨⟨s,g⟩,t,u⟩:=x
   simp only at hxr
   obtain ⟨F1,hV,hT⟩:=hOP
   obtain ⟨w4,hw4,hb4,hz4,hs4⟩:=box1 wr (.cells #[.int .i64 s,.int .i64 g,.int .i64 t,.int .i64 u] 60)
   obtain ⟨w5,hw5,hb5,hz5,hs5⟩:=box1 w4 (.cells #[.int .i64 s,.int .i64 g,.int .i64 t,.int .i64 u] 47)
   have hV5:=(hV.below hb4).below hb5
   have hb45:=hb4.trans (hb5.mono hb4.size)
   have hz45:=(Mod.ofBelow hb5).keep hz4 (by simp)
   have hN : wr.heap.size ∉ F1:=fun e => by have:=hV.lt _ e;omega
   have hL : Lies w5 w5.heap.size (some ⟨w4.heap.size,0,none⟩) (([(s,g),(t,u)] : List Hd).flatMap handleC):=by rw [← hw5];exact lies_new rfl
   have HLv:=Lib.hid (vlive_any hV5 _ 2 [(s,g),(t,u)] (by simp) hL)
   have HO:=Lib.hid (bdC_one ((s,g),(t,u)))
   obtain ⟨q0,q1,q2,q3,ql⟩:=cells4 hz4
   have hT5:=hT.below hb45
   obtain ⟨HQ,HLd,HC,Hxr,HV5,HT5,Hz45,HN,Hw4,Hw5,Hbr,Hs4,Hs5,Hb45,Hlt⟩:=hid15 hq hld hC hxr hV5 hT5 hz45 hN hw4 hw5 hbr hs4 hs5 hb45 hlt
   clear hq hld hC hxr hV5 hT5 hz45 hN hw4 hw5 hbr hs4 hs5 hb45 hlt
   clear hc hV hT hb4 hb5 hz4 hz5 hL hge'
   cases hlv : liveZ sl [(s,g),(t,u)] with
   | false =>
    have Hlv:=Lib.hid hlv
    clear hlv
    go_wp2_with (first | (refine wpList_load_flat rfl 60 (.tmp 33) rfl _ rfl [.int .i64 s,.int .i64 g,.int .i64 t,.int .i64 u] _ Tryz.underlying60 rfl (by kernel_rfl) HQ.out ?_) | (refine wpList_store_new rfl 60 (.tmp 8) (.tmp 34) rfl wr (ints [0,0,0,0]) [.int .i64 s,.int .i64 g,.int .i64 t,.int .i64 u] 60 rfl rfl rfl (by kernel_rfl) HO.out ?_;rw [show ([.int .i64 s,.int .i64 g,.int .i64 t,.int .i64 u] : List Value).toArray = #[.int .i64 s,.int .i64 g,.int .i64 t,.int .i64 u] from rfl,Hw4.out]) | fail)
    rw [Hw5.out]
    clear q0 q1 q2 q3 ql
    refine HLv.out.mono ?_
    rintro e w6 ⟨rfl,hb6⟩
    rw [liveE_no Hlv.out]
    have hfin:=zld_err ((HfinE.out B 7 (HLd.out.symm.trans (loadB_dead Hlv.out))).1) (by decide) (Hbr.out.trans ((Hb45.out.trans (hb6.mono Hb45.out.size)).mono Hbr.out.size))
    have Hfin:=Lib.hid hfin
    clear hfin
    clear hb6
    go_wp2_with fail
    refine bodyPost_ret (v:=.tuple #[.pointer none,.int .i64 7]) (by unfold results;try go_simp) rfl Hfin.out
   | true =>
    have Hlv:=Lib.hid hlv
    clear hlv
    go_wp2_with (first | (refine wpList_load_flat rfl 60 (.tmp 33) rfl _ rfl [.int .i64 s,.int .i64 g,.int .i64 t,.int .i64 u] _ Tryz.underlying60 rfl (by kernel_rfl) HQ.out ?_) | (refine wpList_store_new rfl 60 (.tmp 8) (.tmp 34) rfl wr (ints [0,0,0,0]) [.int .i64 s,.int .i64 g,.int .i64 t,.int .i64 u] 60 rfl rfl rfl (by kernel_rfl) HO.out ?_;rw [show ([.int .i64 s,.int .i64 g,.int .i64 t,.int .i64 u] : List Value).toArray = #[.int .i64 s,.int .i64 g,.int .i64 t,.int .i64 u] from rfl,Hw4.out]) | fail)
    rw [Hw5.out]
    clear q0 q1 q2 q3 ql
    refine HLv.out.mono ?_
    rintro e w6 ⟨rfl,hb6⟩
    rw [liveE_ok Hlv.out]
    have hV6:=HV5.out.below hb6
    have hT6:=HT5.out.below hb6
    have hz6:=(Mod.ofBelow hb6).keep Hz45.out (by simp)
    have hb06:=Hbr.out.trans ((Hb45.out.trans (hb6.mono Hb45.out.size)).mono Hbr.out.size)
    obtain ⟨o,ho⟩ : ∃ o,parB B (s,g) = o:=⟨_,rfl⟩
    obtain ⟨⟨ps,pg⟩,hps⟩ : ∃ x,parV o = x:=⟨_,rfl⟩
    have hPr:=fun V (hb : Below w6.heap.size w6 V) => v_parent (hV6.below hb) s g Hxr.out.1
    rw [ho] at hPr
    simp only [hdV,handleC,hps] at hPr
    obtain ⟨bo,hbo⟩ : ∃ bo,o.isSome = bo:=⟨_,rfl⟩
    rw [hbo] at hPr
    obtain ⟨zl,hzl⟩ : ∃ zl,zl = ints [0,0]:=⟨_,rfl⟩
    obtain ⟨rl,hrl⟩ : ∃ rl,rl = ints [ps,pg]:=⟨_,rfl⟩
    obtain ⟨HV6,HT6,Hz6,Hb06,Ho,Hbo,HPr,Hzl,Hrl⟩:=hid9 hV6 hT6 hz6 hb06 ho hbo hPr hzl hrl
    clear hV6 hT6 hz6 hb06 ho hbo hPr hzl hrl
    clear hb6 hps
    go_wp2_with fail
    refine wp_planK [10] 12 [0] [some 46,some 47,some 48,some 49,some 50,some 51,some 52,some 45,some 53,some 54,some 10,none,some 11] [[],[0],[0,1],[0,1,2],[],[4],[0,1,2,3,4,5],[0,1,2,3,4,5,6],[0,1,2,3,4,5,6,7],[0,1,2,3,4,5,6,7],[],[0,1,2,3,4,5,6,7,8,10],[0,1,2,3,4,5,6,7,8,9,10,11]] [0,1,2,3,4,5,6,7,8,9,10,11] (fun Lf σ W => IGet 10 11 w6 zl.toArray rl.toArray 47 Lf σ W) mixed rfl (by kernel_rfl) (by decide) (by decide) (by decide) (IGet.start below_drew) rfl ?_
    iterate 12 apply Exists.intro
    refine ⟨rfl,?_,?_⟩
    ·simp only [tS,List.take_zero,AllFrom.cons_eq,AllFrom.nil_eq,OpGoalK]
     refine ⟨?_,?_,?_,?_,?_,?_,?_,?_,?_,?_,?_,?_,trivial⟩
     all_goals (intro L' σ V h1 h2 h3 hI hp;have HA1:=Lib.hid h1;have HA2:=Lib.hid h2;have HA3:=Lib.hid h3;clear h1 h2 h3;(try simp only [gZ,gS,preK_cons,preK_nil] at hp);(try simp only [List.mem_cons,List.not_mem_nil,or_false,eq_self,Nat.reduceEqDiff,Nat.reduceAdd,Nat.zero_add,false_or,true_or,true_and,and_true] at hp);(first | (have hq : True:=hp;clear hq hp) | skip);have HI:=Lib.hid hI;clear hI)
     all_goals (
      have hA:=(HV6.out.below HI.out.b).cells
      have hc1:=hA.2.1;have hzl':=hA.2.2
      have hzV:=(Mod.ofBelow HI.out.b).keep Hz6.out (by simp)
      have q0:=blk_cell hzV 0
      have q1:=blk_cell hzV 1
      have q2:=blk_cell hzV 2
      have q3:=blk_cell hzV 3
      simp only [eA,eZ,eS] at q0 q1 q2 q3
      have ql:=blk_lt hzV
      clear hA hzV)
     iterate 6 · (go_simp;exact ⟨.inr rfl,HI.out.read (by decide) (by decide) _⟩)
     ·(go_simp;refine (HPr.out V HI.out.b).mono ?_;rintro e V2 ⟨rfl,hb⟩;exact ⟨_,rfl,.inr rfl,(HI.out.step hb).read (by decide) (by decide) _⟩)
     iterate 3 · (go_simp;exact ⟨.inr rfl,HI.out.read (by decide) (by decide) _⟩)
     ·go_simp
      have hmk:=HI.out.made (by decide) (HA3.out 11 (by decide))
      rw [Hzl.out] at hmk ⊢
      exact PostK.mk (c:=undef) (.inl (by decide)) hmk
     ·simp only [wantedL_none,if_true,Nat.reduceAdd,Nat.zero_add]
      have x3:=HA1.out
      simp only [Nat.reduceAdd,Nat.zero_add] at x3
      generalize hρ : Act.eval _ = ρ
      refine IGet.yr_stored HI.out (by decide) (HA2.out 10 (by decide)) x3 (by rw [Hzl.out,Hrl.out];rfl) 47 (.tmp 10) (.tmp 53) rfl ?_ ?_ (by rw [Hrl.out];kernel_rfl) (by rw [Hrl.out];exact ints_one _) (fun V' hV' => PostK.mk (c:=undef) (.inr rfl) hV')
      ·rw [← hρ]
       go_simp
      ·rw [← hρ]
       go_simp
       rw [Hrl.out]
       rfl
    ·intro L' σ V h1 hI hp
     obtain ⟨r,s9,hr,hst⟩:=hI.blk (h1 10 (by decide))
     clear h1
     simp only [preK_cons,preK_nil,gZ,gS] at hp;simp only [List.mem_cons,List.not_mem_nil,or_false,eq_self,Nat.reduceEqDiff,false_or,true_or,true_and,and_true] at hp
     have hbV:=hI.b
     have hVV:=HV6.out.below hbV
     have hTV:=HT6.out.below hbV
     have hzV:=(Mod.ofBelow hbV).keep Hz6.out (by simp)
     have hb0V:=Hb06.out.trans (hbV.mono Hb06.out.size)
     have hNV : wr.heap.size ∉ F1:=HN.out
     have hfin6:=fun (hh : bo = true) => zld_err ((HfinE.out B 6 (HLd.out.symm.trans (loadB_twice Hlv.out (by simp only;rw [Ho.out,Hbo.out];exact hh)))).1) (by decide) hb0V
     obtain ⟨HVV,HTV,HzV,Hb0V,Hfin6⟩:=hid5 hVV hTV hzV hb0V hfin6
     clear hVV hTV hzV hb0V hfin6
     clear hI hst hr hbV
     simp only [dS,List.drop_zero]
     go_simp
     clear hp
     generalize σ 10 = v10 at *
     subst s9
     go_wp2_with fail
     refine ⟨rfl,?_⟩
     cases hbo2 : bo with
     | true =>
      have hfin:=Hfin6.out hbo2
      have Hfin:=Lib.hid hfin
      clear hfin
      subst hbo2
      go_wp2_with fail
      refine bodyPost_ret (v:=.tuple #[.pointer none,.int .i64 6]) (by unfold results;try go_simp) rfl Hfin.out
     | false =>
      have Hno:=Lib.hid (show (parB B (s,g)).isSome = false by rw [Ho.out,Hbo.out];exact hbo2)
      subst hbo2
      go_wp2_with fail
      refine wp_planK [] 9 [0] [some 56,some 57,some 58,some 59,some 60,some 61,some 62,some 63,some 64,some 12] [[],[0],[0,1],[0,1,2],[],[4],[],[6],[0,1,2,3,4,5,6,7],[0,1,2,3,4,5,6,7,8]] [0,1,2,3,4,5,6,7,8] (fun Lf σ W => ITurn 8 V F1 (RepV z p f sl LL (adoB B (s,g) (t,u))) Lf σ W) mixed rfl (by kernel_rfl) (by decide) (by decide) (by decide) (ITurn.start below_drew) rfl ?_
      iterate 9 apply Exists.intro
      refine ⟨rfl,?_,?_⟩
      ·simp only [tS,List.take_zero,AllFrom.cons_eq,AllFrom.nil_eq,OpGoalK]
       refine ⟨?_,?_,?_,?_,?_,?_,?_,?_,?_,trivial⟩
       all_goals (intro L' σ V h1 h2 h3 hI hp;have HA1:=Lib.hid h1;have HA2:=Lib.hid h2;have HA3:=Lib.hid h3;clear h1 h2 h3;(try simp only [gZ,gS,preK_cons,preK_nil] at hp);(try simp only [List.not_mem_nil,false_or,and_true] at hp);(first | (have hq : True:=hp;clear hq hp) | skip);have HI:=Lib.hid hI;clear hI)
       all_goals (
        have hk:=HI.out.k
        have hzW:=hk.keep HzV.out HN.out
        have q0:=blk_cell hzW 0
        have q1:=blk_cell hzW 1
        have q2:=blk_cell hzW 2
        have q3:=blk_cell hzW 3
        simp only [eA,eZ,eS] at q0 q1 q2 q3
        have ql:=blk_lt hzW
        have hb:=HI.out.s0 (by first | exact HA3.out 8 (by decide) | exact HA1.out)
        have hRV:=HVV.out.below hb
        have hA:=hRV.cells
        have hc1:=hA.2.1;have hzl':=hA.2.2
        have HRV:=Lib.hid hRV
        clear hk hzW hA hRV hb)
       iterate 8 · (go_simp;exact ⟨.inr rfl,HI.out.read (by decide) _⟩)
       ·(go_simp;refine (v_adopt HRV.out s g t u Hxr.out.1 Hxr.out.2).mono ?_;rintro e V2 ⟨rfl,hp2⟩;exact ⟨_,rfl,.inr rfl,HI.out.turn HA1.out hp2 _⟩)
      ·intro L' σ V7 h1 hI hp
       have hP:=hI.s1 (h1 8 (by decide))
       clear h1 hI
       simp only [preK_cons,preK_nil,gZ,gS] at hp;simp only [List.not_mem_nil,false_or,and_true] at hp
       have hOP7 : OwnPost (RepV z p f sl LL (adoB B (s,g) (t,u))) F3 w3 V7:=by
        obtain ⟨F4,h3,h4⟩:=hP
        exact ⟨F4,h3,HTV.out.trans h4⟩
       have hge' : ∀ y ∈ F3,w.heap.size ≤ y:=fun y hy => Nat.le_trans Hb0.out.size (Hge.out y hy)
       have hb7 : Below w.heap.size w V7:=Hb03.out.trans (hOP7.mod.toBelow hge' Hb03.out.size)
       obtain ⟨HOP7,Hb7⟩:=hid2 hOP7 hb7
       clear hOP7 hb7
       clear hP hge'
       simp only [dS,List.drop_zero]
       go_simp
       clear hp
       rcases adoE_cases B (s,g) (t,u) with he | he
       ·have hgo:=(loadB_go (r:=bs.drop (k + 1)) Hlv.out Hno.out he).symm.trans HLd.out
        have hC7:=adoB_live (a:=(s,g)) (b:=(t,u)) HC.out ((liveB_iff sl s g).1 (by have h:=Hlv.out;rw [liveZ_two] at h;exact (Bool.and_eq_true _ _ ▸ h).1))
        rw [he]
        obtain ⟨Hgo,HC7⟩:=hid2 hgo hC7
        clear hgo hC7
        clear he
        have hlt:=Hlt.out
        go_wp2_with fail
        refine ⟨rfl,?_⟩
        go_wp2
        go_roundw
        case rel => exact ⟨k + 1,_,by omega,by go_num,HOP7.out,Hgo.out,HC7.out⟩
        case measure => simp [Go.RowKit.intOf];omega
       ·have hfin:=zld_err ((HfinE.out B 8 (HLd.out.symm.trans ((loadB_loop Hlv.out Hno.out (by simp only;rw [he];decide)).trans (by simp only;rw [he])))).1) (by decide) Hb7.out
        rw [he]
        have Hfin:=Lib.hid hfin
        clear hfin
        clear he
        go_wp2_with fail
        refine ⟨rfl,?_⟩
        go_wp2_with fail
        refine bodyPost_ret (v:=.tuple #[.pointer none,.int .i64 8]) (by unfold results;try go_simp) rfl Hfin.out
  ·obtain rfl : k = bs.length:=by omega
   rw [List.drop_length] at hld
   obtain ⟨e1,e2⟩:=HfinE.out B 0 hld.symm
   obtain ⟨F4,h4,h5⟩:=hOP
   have hfin : ZLdPost gs rows bs w (.returned (.tuple #[.pointer (some ⟨z,0,none⟩),.int .i64 0])) wr:=by
    refine ⟨hbr,.inr ⟨e1,z,p,f,F4,rfl,?_,fun y hy => ?_,?_⟩⟩
    ·rw [Hsl.out,HLL.out,e2];exact h4
    ·rcases h5.new y hy with h | h
     ·exact hge' y h
     ·exact Nat.le_trans Hb03.out.size h
    ·rw [Hsl.out,e2];exact hC
   have Hfin:=Lib.hid hfin
   clear hfin
   clear h4 h5 hbr hge' hld hC hlt e1 e2
   go_wp2_with fail
   refine bodyPost_ret (v:=.tuple #[.pointer (some ⟨z,0,none⟩),.int .i64 0]) (by unfold results;try go_simp) rfl Hfin.out
end Go.Proofs.YtfdillpofciicaaGreatDoor
namespace Go.Proofs.YtfdillpofciicaaGreatDoor
open Go Go.RowKit
attribute [local go_sem] AllFrom.cons_eq AllFrom.nil_eq putF_nil putF_cons wantedL_none wantedL_some OpGoalQ YieldsR preF_nil preF_cons
set_option maxRecDepth 20000 in
set_option maxHeartbeats 1000000 in
theorem eqRow_any (A : Option Addr) (c : Nat) (A' : Option Addr) (c' : Nat) (l l' : List Rw) (w : World) (hl : l.length ≤ 9223372036854775807) (hl' : l'.length ≤ 9223372036854775807)
  (hA : Lies w w.heap.size A (l.flatMap rwC)) (hA' : Lies w w.heap.size A' (l'.flatMap rwC)) :
  Calls Tryz.prog 27 #[.slice A l.length c,.slice A' l'.length c'] w fun e w' => e = .returned (.bool (eqB l l')) ∧ Below w.heap.size w w':=by
 by_cases hlen : l.length = l'.length
 ·have hb : ((l.length : Int) != (l'.length : Int)) = false:=by simp [hlen]
  have Hlen:=Lib.hid hlen
  clear hlen
  go_enter Tryz.func27,Tryz.ntmps27
  go_wp2
  go_loopw [14] (fun i wr => ∃ k : Nat,k ≤ l.length ∧ i = .int .i64 k ∧ l.take k = l'.take k ∧ Below w.heap.size w wr) (fun i _ => l.length - (Go.RowKit.intOf i).toNat)
  case atStart => exact ⟨0,by omega,rfl,rfl,Below.refl _ _⟩
  case round =>
   obtain ⟨k,hk,rfl,heq,hbel⟩:=hrel
   have Heq:=Lib.hid heq
   clear heq hb
   have hsz:=hbel.size
   by_cases hlt : k < l.length
   ·have hlt' : k < l'.length:=by rw [← Hlen.out];exact hlt
    obtain ⟨ab,ao,rfl,hal,hc⟩:=hA.rec_at rwC_len (by omega) hlt
    obtain ⟨bb,bo,rfl,hbl,hc'⟩:=hA'.rec_at rwC_len (by omega) hlt'
    have hs:=take_succ_get l k hlt
    have hs':=take_succ_get l' k hlt'
    have hne : l[k] ≠ l'[k] → l ≠ l':=by
     intro h e;subst e;exact h rfl
    have hc1 : ∀ j u,(rwC l[k])[j]? = some u → wr.cell? ((⟨ab,ao + k * 11,none⟩ : Addr).add j) = some u:=fun j u hu => by
     have:=(hbel.cell (p:=⟨ab,ao + k * 11 + j,none⟩) hal).trans (hc j u hu)
     rw [Addr.add_mid];exact this
    have hc2 : ∀ j u,(rwC l'[k])[j]? = some u → wr.cell? ((⟨bb,bo + k * 11,none⟩ : Addr).add j) = some u:=fun j u hu => by
     have:=(hbel.cell (p:=⟨bb,bo + k * 11 + j,none⟩) hbl).trans (hc' j u hu)
     rw [Addr.add_mid];exact this
    have hal2 : ab < wr.heap.size:=by omega
    have hbl2 : bb < wr.heap.size:=by omega
    have hin : (k : Int) < (l'.length : Int):=by omega
    generalize l[k] = x at *
    generalize l'[k] = y at *
    obtain ⟨Hs,Hs',Hne,Hc1,Hc2,Hbel⟩:=hid6 hs hs' hne hc1 hc2 hbel
    have he:=fun w => neqRow w x y
    clear hs hs' hne hc hc' hA hA' hc1 hc2 hbel
    generalize hr : eqB x y = r at *
    have Hr:=Lib.hid hr
    clear hr
    have hDa : ∀ u ∈ rwC x,u.oneCell' = true:=rwC_one x
    have HDa:=Lib.hid hDa
    clear hDa
    go_wp2_with (first | (refine wpList_load_flat rfl 56 (.tmp 17) rfl _ rfl (rwC x) _ Tryz.underlying56 rfl (sz_Row _) Hc1.out ?_) | (refine wpList_store_new rfl 56 (.tmp 6) (.tmp 18) rfl wr (ints [0,0,0,0,0,0,0,0,0,0,0]) (rwC x) 56 rfl rfl rfl (sz_Row _) HDa.out ?_))
    have hnew : ∀ j u,(rwC x)[j]? = some u → (wr.alloc (.cells (rwC x).toArray 56)).drew.cell? ((⟨wr.heap.size,0,none⟩ : Addr).add j) = some u:=fun j u hu => new_rec rfl (by simp) j u hu
    have hold : ∀ j u,(rwC y)[j]? = some u → (wr.alloc (.cells (rwC x).toArray 56)).drew.cell? ((⟨bb,bo + k * 11,none⟩ : Addr).add j) = some u:=fun j u hu => by
     have:=Hc2.out j u hu
     rw [Addr.add_mid] at this ⊢
     exact (((Below.refl wr.heap.size wr).alloc (Nat.le_refl _) _).cell (p:=⟨bb,bo + k * 11 + j,none⟩) hbl2).trans this
    obtain ⟨Hnew,Hold⟩:=hid2 hnew hold
    clear hnew hold
    refine wp_planR 6 [1,2] [some 19,some 20,some 21,some 22,some 23,some 24] [[],[],[],[1,2],[1,2,3],[0,1,2,3,4]] [0,1,2,3,4,5] mixed rfl (by kernel_rfl) (by decide) (by decide) rfl ?_
    iterate 6 apply Exists.intro
    refine ⟨rfl,?_,?_⟩
    ·simp only [tS,List.take_zero,AllFrom.cons_eq,AllFrom.nil_eq,OpGoalQ]
     refine ⟨?_,?_,?_,?_,?_,?_,trivial⟩
     all_goals (intro σ hp;(try simp only [gZ,gS,mC,mN,preF_cons,preF_nil,isV,and_true] at hp);(first | (have hq : True:=hp;clear hq hp) | skip))
     ·(simp only [wantedL_none,↓reduceIte,gZ,gS];refine yr_load 56 (.tmp 6) (by rfl) ⟨wr.heap.size,0,none⟩ ?_ (rwC x) _ Tryz.underlying56 rfl (sz_Row _) Hnew.out ?_;(· go_simp);(· exact ⟨rfl,rfl⟩))
     iterate 3 · (go_simp;exact ⟨rfl,rfl⟩)
     ·(simp only [wantedL_none,↓reduceIte,gZ,gS];refine yr_load 56 (.tmp 22) (by rfl) ⟨bb,bo + k * 11,none⟩ ?_ (rwC y) _ Tryz.underlying56 rfl (sz_Row _) Hold.out ?_;(· go_simp);(· exact ⟨rfl,rfl⟩))
     ·(go_simp;exact ⟨rfl,rfl⟩)
    intro σ hp
    simp only [gZ,gS,mC,mN,preF_cons,preF_nil,isV,and_true] at hp
    simp only [dS,List.drop_zero]
    go_simp
    clear hp
    cases r with
    | true =>
     have hxy : x = y:=by simpa [eqB] using Hr.out
     have Hxy:=Lib.hid hxy
     clear hxy
     go_simp
     refine ⟨rfl,?_⟩
     go_wp2
     go_roundw
     case rel => exact ⟨k + 1,by omega,by go_num,by rw [Hs.out,Hs'.out,Heq.out,Hxy.out],(Hbel.out.alloc hsz _).drew⟩
     case measure => simp [Go.RowKit.intOf];omega
    | false =>
     have hxy : x ≠ y:=by intro e;have:=Hr.out;rw [e,eqB_self] at this;cases this
     have Hf:=Lib.hid (eqB_ne (Hne.out hxy))
     clear hxy
     go_simp
     refine ⟨rfl,?_⟩
     go_wp2
     go_ret
     exact ⟨by rw [Hf.out];rfl,(Hbel.out.alloc hsz _).drew⟩
   ·have he : l = l':=by
     have:=Heq.out
     rwa [List.take_of_length_le (by omega),List.take_of_length_le (by have:=Hlen.out;omega)] at this
    have Hf : Hid (eqB l l' = true):=by rw [he];exact eqB_self _
    clear he
    go_wp2
    go_ret
    exact ⟨by rw [Hf.out];rfl,hbel⟩
 ·have hb : ((l.length : Int) != (l'.length : Int)) = true:=by simp;omega
  have Hf:=Lib.hid (eqB_ne (fun e : l = l' => hlen (congrArg List.length e)))
  clear hlen
  go_enter Tryz.func27,Tryz.ntmps27
  go_wp2
  go_ret
  exact ⟨by rw [Hf.out];rfl,Below.refl _ _⟩
end Go.Proofs.YtfdillpofciicaaGreatDoor
namespace Go.Proofs.YtfdillpofciicaaGreatDoor
open Go Go.RowKit
attribute [local go_sem] AllFrom.cons_eq AllFrom.nil_eq putF_nil putF_cons wantedL_none wantedL_some OpGoalT OpGoalV OpGoalQ OpGoalA OpGoalK YieldsR preF_nil preF_cons
abbrev Rs:=Nat × TypeId × Nat × Nat × List Value
structure IRs (w0 : World) (R : List Rs) (L : Nat → Bool) (σ : Nat → Value) (V : World) : Prop where
 b : Below w0.heap.size w0 V
 r : ∀ x ∈ R,L x.1 = true → V.ownsRow w0.heap.size x.2.1 x.2.2.1 (σ x.1) x.2.2.2.1 x.2.2.2.2
section
variable {w0 V V' : World} {R : List Rs} {L : Nat → Bool} {σ : Nat → Value}
theorem IRs.start (h : Below w0.heap.size w0 V) : IRs w0 R (fun _ => false) σ V:=⟨h,fun _ _ e => (by cases e)⟩
theorem IRs.read (h : IRs w0 R L σ V) {i : Nat} (hi : i ∉ R.map (·.1)) (v : Value) : IRs w0 R (upd L i) (updv σ i v) V:=by
 refine ⟨h.b,fun x hx e => ?_⟩
 have hne : x.1 ≠ i:=fun e2 => hi (e2 ▸ List.mem_map.2 ⟨x,hx,rfl⟩)
 have e1 : upd L i x.1 = L x.1:=by unfold upd;simp [hne]
 have e2 : updv σ i v x.1 = σ x.1:=by unfold updv;rw [if_neg hne]
 rw [e1] at e
 rw [e2]
 exact h.r x hx e
theorem IRs.got (h : IRs w0 R L σ V) {m : Nat} {v : Value} (hb : Below V.heap.size V V') (hv : ∀ x ∈ R,x.1 = m → V'.ownsRow V.heap.size x.2.1 x.2.2.1 v x.2.2.2.1 x.2.2.2.2) : IRs w0 R (upd L m) (updv σ m v) V':=by
 refine ⟨h.b.trans (hb.mono h.b.size),fun x hx e => ?_⟩
 by_cases hm : x.1 = m
 ·have h1:=hv x hx hm
  have e2 : updv σ m v x.1 = v:=by unfold updv;simp [hm]
  rw [e2]
  exact row_base h1 (fun j hj => Nat.le_trans h.b.size (own_ge h1 j hj))
 ·have e1 : upd L m x.1 = L x.1:=by unfold upd;simp [hm]
  have e2 : updv σ m v x.1 = σ x.1:=by unfold updv;rw [if_neg hm]
  rw [e1] at e
  rw [e2]
  exact row_mod (h.r x hx e) (Mod.ofBelow hb) (by simp)
end
theorem matches_zero' (m : Int) : matchesB m 0 0 0 = true:=by
 rw [matches_eq (by unfold InR;omega)]
 have h0 : ∀ j,bt 0 j = false:=fun j => by simp [bt]
 simp [okTo,anyTo,h0]
theorem rowsM_zero' (L : List Rw) : rowsM L 0 0 0 = L:=by
 unfold rowsM
 exact List.filter_eq_self.2 fun x _ => matches_zero' _
def StPost (sl : Sl) (L : List Rw) (B : List Bd) (w : World) (e : Ending) (w' : World) : Prop :=
 ∃ v1 v2 v3,e = .returned (.agg #[v1,v2,v3]) ∧ w'.ownsRow w.heap.size 3 1 v1 (gensS sl).length (ints (gensS sl)) ∧ w'.ownsRow w.heap.size 56 11 v2 L.length (L.flatMap rwC) ∧ w'.ownsRow w.heap.size 60 4 v3 B.length (B.flatMap bdC) ∧ Below w.heap.size w w'
section
variable {z p f q : Nat} {sl : Sl} {L : List Rw} {B : List Bd} {w : World} {F : List Nat}
theorem v_gensA (h : RepV z p f sl L B w F) : ∃ ps,∀ V,Below w.heap.size w V → V.cell? ⟨z,0,none⟩ = some (.pointer (some ⟨p,0,none⟩)) ∧ V.cell? ⟨z,1,none⟩ = some (.pointer (some ⟨f,0,none⟩)) ∧ z < V.heap.size ∧ V.cell? ⟨p,0,none⟩ = some (.pointer (some ⟨ps,0,none⟩)) ∧ p < V.heap.size ∧ Calls Tryz.prog 45 #[.pointer (some ⟨ps,0,none⟩)] V (MadeInts V.heap.size (gensS sl) V):=by
 obtain ⟨ps,FS,h1,h2,h3⟩:=h.slots
 refine ⟨ps,fun V hV => ?_⟩
 have hc:=(h.below hV).cells
 exact ⟨hc.1,hc.2.1,hc.2.2,(hV.cell (p:=⟨p,0,none⟩) h2).trans h1,Nat.lt_of_lt_of_le h2 hV.size,gens_any ps sl FS V (h3.mod (Mod.ofBelow hV) (by simp)) h.okW.ok.1⟩
set_option maxRecDepth 20000 in
set_option maxHeartbeats 4000000 in
theorem vstate_any (h : RepV z p f sl L B w F) (hl : B.length ≤ 60) : Calls Tryz.prog 13 #[.pointer (some ⟨z,0,none⟩)] w (StPost sl L B w):=by
 obtain ⟨w0,hw0,hb0,hz0,hs0⟩:=box1 w (.cells #[.slice none 0 0,.slice none 0 0,.slice none 0 0] 26)
 have h0:=h.below hb0
 obtain ⟨FW,hW⟩:=h0.w_
 have H1:=Lib.hid (wrows_any hW 0 0 0)
 have hc:=h0.cells
 have hc0:=hc.1;have hzl:=hc.2.2
 obtain ⟨H0,Hb0,Hz0,Hs0⟩:=hid4 h0 hb0 hz0 hs0
 clear h0 hb0 hz0 hs0
 clear hc hW
 go_enter Tryz.func13,Tryz.ntmps13
 go_wp2_with fail
 clear hw0
 refine H1.out.mono ?_
 rintro e w1 ⟨v,rfl,hv,hb1⟩
 rw [show qcheck 0 0 0 = 0 by decide,if_pos rfl,rowsM_zero'] at hv
 rw [show qcheck 0 0 0 = 0 by decide]
 have h1:=H0.out.below hb1
 have hz1:=(Mod.ofBelow hb1).keep Hz0.out (by simp)
 have hb01:=Hb0.out.trans (hb1.mono Hb0.out.size)
 obtain ⟨ps,hA⟩:=v_gensA h1
 obtain ⟨FF,hFF⟩:=h1.f_
 have hBn:=fun V (hb : Below w1.heap.size w1 V) => bonds_any (hFF.below hb) (by omega : B.length ≤ 1200000000000)
 obtain ⟨Hr1,Hz1,Hb01,HA,HBn,Hv⟩:=hid6 h1 hz1 hb01 hA hBn hv
 clear h1 hz1 hb01 hA hBn hv
 clear hb1 H1 hc0 hzl hFF
 go_wp2_with fail
 refine wp_planK [7,13] 14 [0,8,9] [some 14,some 15,some 16,some 17,some 18,some 19,some 20,some 21,some 22,some 23,some 24,some 25,some 26,some 27,some 28,none] [[],[0],[0,1],[0,1,2],[0,1,2,3],[0,1,2,3,4],[0,1,2,3,4,5],[0,1,2,3,4,5,6],[],[],[9],[9,10],[9,10,11],[0,1,2,3,4,5,6,7,9,10,11,12],[0,1,2,3,4,5,6,7,8,9,10,11,12,13],[0,1,2,3,4,5,6,7,8,9,10,11,12,13,14]] [0,1,2,3,4,5,6,7,8,9,10,11,12,13] (fun Lf σ W => IRs w1 [(7,3,1,(gensS sl).length,ints (gensS sl)),(13,60,4,B.length,B.flatMap bdC)] Lf σ W) mixed rfl (by kernel_rfl) (by decide) (by decide) (by decide) (IRs.start below_drew) rfl ?_
 iterate 14 apply Exists.intro
 refine ⟨rfl,?_,?_⟩
 ·simp only [tS,List.take_zero,AllFrom.cons_eq,AllFrom.nil_eq,OpGoalK]
  refine ⟨?_,?_,?_,?_,?_,?_,?_,?_,?_,?_,?_,?_,?_,?_,trivial⟩
  all_goals (intro L' σ V h1 h2 h3 hI hp;have HA1:=Lib.hid h1;have HA2:=Lib.hid h2;have HA3:=Lib.hid h3;clear h1 h2 h3;(try simp only [gZ,gS,preK_cons,preK_nil] at hp);(try simp only [List.mem_cons,List.not_mem_nil,or_false,eq_self,Nat.reduceEqDiff,Nat.reduceAdd,Nat.zero_add,false_or,true_or,true_and,and_true] at hp);(first | (have hq : True:=hp;clear hq hp) | skip);have HI:=Lib.hid hI;clear hI)
  all_goals (
   have hA:=HA.out V HI.out.b
   have hc0:=hA.1;have hc1:=hA.2.1;have hzl:=hA.2.2.1;have hp0:=hA.2.2.2.1;have hpl:=hA.2.2.2.2.1
   have HG:=Lib.hid hA.2.2.2.2.2
   clear hA)
  iterate 7 · (go_simp;exact ⟨.inr rfl,HI.out.read (by simp) _⟩)
  ·go_simp
   refine (HG.out).mono ?_
   rintro e V' ⟨v,rfl,hv,hb⟩
   exact ⟨_,rfl,PostK.mk (c:=undef) (.inl (by decide)) (HI.out.got hb (fun x hx e => by
    simp only [List.mem_cons,List.not_mem_nil,or_false] at hx
    rcases hx with rfl | rfl <;> first | exact hv | (exfalso;revert e;simp)))⟩
  iterate 5 · (go_simp;exact ⟨.inr rfl,HI.out.read (by simp) _⟩)
  ·go_simp
   refine (HBn.out _ HI.out.b).mono ?_
   rintro e V' ⟨v,rfl,hv,hb⟩
   exact ⟨_,rfl,PostK.mk (c:=undef) (.inl (by decide)) (HI.out.got hb (fun x hx e => by
    simp only [List.mem_cons,List.not_mem_nil,or_false] at hx
    rcases hx with rfl | rfl <;> first | exact hv | (exfalso;revert e;simp)))⟩
 ·intro L' σ V h1 hI hp
  have hr7:=hI.r _ (List.mem_cons_self ..) (h1 7 (by decide))
  have hr13:=hI.r _ (List.mem_cons_of_mem _ (List.mem_cons_self ..)) (h1 13 (by decide))
  have hb2:=hI.b
  clear h1 hI
  simp only [preK_cons,preK_nil,gZ,gS] at hp;simp only [List.mem_cons,List.not_mem_nil,or_false,eq_self,Nat.reduceEqDiff,false_or,true_or,true_and,and_true] at hp
  simp only at hr7 hr13
  have hvV:=row_mod Hv.out (Mod.ofBelow hb2) (by simp)
  have hzV:=(Mod.ofBelow hb2).keep Hz1.out (by simp)
  have hbV:=Hb01.out.trans (hb2.mono Hb01.out.size)
  obtain ⟨c0,c1,c2,cl⟩:=cells3 hzV
  have f0:=blk_free hzV 0
  have f1:=blk_free hzV 1
  have f2:=blk_free hzV 2
  generalize hs7 : σ 7 = v7 at *
  generalize hs13 : σ 13 = v13 at *
  obtain ⟨A7,c7,rfl,-,-⟩:=row_slice hr7
  obtain ⟨A8,c8,rfl,-,-⟩:=row_slice hvV
  obtain ⟨A9,c9,rfl,-,-⟩:=row_slice hr13
  have hne : ∀ x : Nat,w1.heap.size ≤ x → w.heap.size ≠ x:=fun x hx => by have:=Hb01.out.size;have:=Hs0.out;have:=blk_lt Hz1.out;omega
  have HFin:=Lib.hid (fun V' (hm : Mod [w.heap.size] V V') => (⟨row_base (B':=w.heap.size) (row_mod hr7 hm (fun k hk e => hne k (own_ge hr7 k hk) (by simp at e;exact e.symm))) (fun k hk => by have h1:=own_ge hr7 k hk;have h2:=Hb01.out.size;omega),row_base (B':=w.heap.size) (row_mod hvV hm (fun k hk e => by have h1:=own_ge Hv.out k (by simpa using hk);have:=Hs0.out;simp at e;omega)) (fun k hk => by have h1:=own_ge Hv.out k (by simpa using hk);have h2:=Hs0.out;omega),row_base (B':=w.heap.size) (row_mod hr13 hm (fun k hk e => hne k (own_ge hr13 k hk) (by simp at e;exact e.symm))) (fun k hk => by have h1:=own_ge hr13 k hk;have h2:=Hb01.out.size;omega),hbV.trans (hm.toBelow (by simp) hbV.size)⟩ : _ ∧ _ ∧ _ ∧ Below w.heap.size w V'))
  clear hr7 hr13 hvV hzV hb2 hne
  have HbV:=Lib.hid hbV
  clear hbV
  simp only [dS,List.drop_zero]
  go_simp
  clear hp
  clear hs7 hs13
  go_wp2
  refine ⟨rfl,?_⟩
  go_wp2
  refine bodyPost_ret (v:=.agg #[.slice A7 (gensS sl).length c7,.slice A8 L.length c8,.slice A9 B.length c9]) (by unfold results;try go_simp) rfl ?_
  refine ⟨_,_,_,rfl,HFin.out _ ?_⟩
  repeat (refine Mod.setCell ?_ (.inl (by simp)) _)
  exact Mod.refl _ _
end
end Go.Proofs.YtfdillpofciicaaGreatDoor
namespace Go.Proofs.YtfdillpofciicaaGreatDoor
open Go Go.RowKit
theorem tw_all {α : Type} {p : α → Bool} : ∀ {l : List α},(∀ x ∈ l,p x = true) → l.takeWhile p = l
 | [],_ => rfl
 | x :: l,h => by rw [List.takeWhile_cons_of_pos (h x (by simp)),tw_all (fun y hy => h y (List.mem_cons_of_mem _ hy))]
theorem rows_unique : ∀ {l m : List Rw},l.Pairwise (fun a b => a.1.1 < b.1.1) → m.Pairwise (fun a b => a.1.1 < b.1.1) → (∀ r,r ∈ l ↔ r ∈ m) → l = m
 | [],[],_,_,_ => rfl
 | [],k :: ks,_,_,hm => absurd ((hm k).2 (by simp)) (by simp)
 | h :: hs,[],_,_,hm => absurd ((hm h).1 (by simp)) (by simp)
 | h :: hs,k :: ks,h1,h2,hm => by
  obtain ⟨a1,a2⟩:=List.pairwise_cons.1 h1
  obtain ⟨b1,b2⟩:=List.pairwise_cons.1 h2
  have e : h = k:=by
   rcases List.mem_cons.1 ((hm h).1 (by simp)) with e | e
   ·exact e
   ·rcases List.mem_cons.1 ((hm k).2 (by simp)) with e2 | e2
    ·exact e2.symm
    ·have:=a1 k e2;have:=b1 h e;omega
  subst e
  rw [rows_unique a2 b2 (fun x => ?_)]
  constructor
  ·intro hx
   rcases List.mem_cons.1 ((hm x).1 (List.mem_cons_of_mem _ hx)) with e | e
   ·subst e;have:=a1 _ hx;omega
   ·exact e
  ·intro hx
   rcases List.mem_cons.1 ((hm x).2 (List.mem_cons_of_mem _ hx)) with e | e
   ·subst e;have:=b1 _ hx;omega
   ·exact e
section
variable {sl : Sl} {L : List Rw} {B : List Bd}
theorem slot_live (h : WOk sl L) (n : Nat) (hn : n < sl.length) : hasB (slotsOf L) (n : Int) = sl[n].2:=by
 have key : hasB (slotsOf L) (n : Int) = true ↔ sl[n].2 = true:=by
  rw [hasB_iff]
  unfold slotsOf
  rw [List.mem_map]
  constructor
  ·rintro ⟨r,hr,e⟩
   have hm : r.1 ∈ allS sl:=by rw [← h.hs];exact List.mem_map.2 ⟨r,hr,rfl⟩
   obtain ⟨j,h1,hj,h2,-⟩:=(mem_allFrom sl 0 r.1.1 r.1.2).1 hm
   have : j = n:=by omega
   subst this;exact h2
  ·intro h2
   have hm : ((n : Int),sl[n].1) ∈ allS sl:=(mem_allFrom sl 0 _ _).2 ⟨n,by simp,hn,h2,rfl⟩
   rw [← h.hs,List.mem_map] at hm
   obtain ⟨r,hr,e⟩:=hm
   exact ⟨r,hr,by rw [e]⟩
 cases h1 : hasB (slotsOf L) (n : Int) <;> cases h2 : sl[n].2 <;> simp_all
theorem wlS_self (h : WOk sl L) : wlS (gensS sl) L = sl:=by
 unfold wlS
 apply List.ext_getElem
 ·rw [loadL_len];unfold gensS;rw [List.length_map]
 ·intro n h1 h2
  rw [loadL_get,slot_live h n h2]
  unfold gensS
  simp
theorem loadE_self (h : WOk sl L) : loadE (gensS sl) (slotsOf L) = 0:=by
 have hl : (gensS sl).length = sl.length:=by unfold gensS;rw [List.length_map]
 have h60:=h.ok.1
 have e1 : anyP badN (gensS sl) = false:=anyP_none fun k hk => by
  have hk' : k < sl.length:=by omega
  have h3:=h.ok.at_ hk'
  have : (gensS sl)[k] = sl[k].1:=List.getElem_map (fun x : Int × Bool => x.1)
  rw [this]
  exact badN_in h3.1 h3.2.1
 have e2 : anyP (badK (gensS sl).length) (slotsOf L) = false:=anyP_none fun k hk => by
  have hk' : k < L.length:=by unfold slotsOf at hk;rwa [List.length_map] at hk
  have hm : L[k].1 ∈ allS sl:=by rw [← h.hs];exact List.mem_map.2 ⟨_,List.getElem_mem hk',rfl⟩
  obtain ⟨j,h1,hj,-,-⟩:=(mem_allFrom sl 0 L[k].1.1 L[k].1.2).1 hm
  have : (slotsOf L)[k] = L[k].1.1:=List.getElem_map (fun r : Rw => r.1.1)
  rw [this]
  unfold badK
  simp only [Bool.or_eq_false_iff,decide_eq_false_iff_not]
  omega
 have e3 : dupB (slotsOf L) = false:=by
  unfold dupB
  rw [List.any_eq_false]
  intro j hj hb
  have hj' : j < (slotsOf L).length:=List.mem_range.1 hj
  rw [List.getD_eq_getElem?_getD,List.getElem?_eq_getElem hj',Option.getD_some,hasB_iff] at hb
  obtain ⟨i,hi,e⟩:=List.mem_iff_getElem.1 hb
  rw [List.length_take] at hi
  rw [List.getElem_take] at e
  have hjl : j < L.length:=by unfold slotsOf at hj';rwa [List.length_map] at hj'
  have hij : i < j:=by omega
  have hs:=List.pairwise_iff_getElem.1 h.sorted i j (by omega) hjl hij
  have e1 : (slotsOf L)[i]'(by omega) = L[i].1.1:=List.getElem_map (fun r : Rw => r.1.1)
  have e2 : (slotsOf L)[j] = L[j].1.1:=List.getElem_map (fun r : Rw => r.1.1)
  rw [e1,e2] at e
  omega
 have e4 : anyS (1000000,true) (loadL (gensS sl) (slotsOf L)) = false:=by
  rw [show loadL (gensS sl) (slotsOf L) = sl from wlS_self h]
  cases e : anyS (1000000,true) sl with
  | false => rfl
  | true =>
   have:=(h.ok.2 _ ((anyS_iff _ _).1 e)).2.2 rfl
   simp at this
 unfold loadE
 rw [if_neg (by omega),if_neg (by rw [e1];simp),if_neg (by rw [e2];simp),if_neg (by rw [e3];simp),if_neg (by rw [e4];simp)]
theorem wlE_self (h : WOk sl L) : wlE (gensS sl) L = 0:=by
 unfold wlE
 rw [if_neg (by have:=h.len;omega),if_neg (by rw [loadE_self h];simp),wlS_self h]
 exact rowsErr_ok.2 fun r hr => ⟨(h.live _ _).2 ⟨r,hr,rfl⟩,h.be r hr⟩
theorem wlL_self (h : WOk sl L) : wlL (gensS sl) L = L:=by
 have hw:=wlok_of (wlE_self h)
 exact rows_unique hw.sorted h.sorted (fun r => hw.mem r)
theorem loadB_self (hf : FamOk B) (hl : ∀ b ∈ B,b.1 ∈ allS sl ∧ b.2 ∈ allS sl) : ∀ (Q P : List Bd),P ++ Q = B → loadB sl P Q = (B,0)
 | [],P,e => by rw [List.append_nil] at e;subst e;rfl
 | x :: Q,P,e => by
  have hx : x ∈ B:=by rw [← e];simp
  have h1 : liveZ sl [x.1,x.2] = true:=by
   rw [liveZ_two,(liveB_iff sl _ _).2 (hl x hx).1,(liveB_iff sl _ _).2 (hl x hx).2];rfl
  have hso:=hf.so
  rw [← e] at hso
  have hso':=List.pairwise_append.1 hso
  have hne : ∀ b ∈ P,b.1 ≠ x.1:=fun b hb => ltH_ne (hso'.2.2 b hb x (by simp))
  have h2 : (parB P x.1).isSome = false:=by
   unfold parB
   rw [List.find?_eq_none.2 (fun b hb => by simpa using hne b hb)];rfl
  have hout : outB P x.1 = P:=outB_none (by cases hq : parB P x.1 with | none => rfl | some y => rw [hq] at h2;cases h2)
  have hnu : ¬ Up P x.2 x.1:=fun hu => by
   obtain ⟨rk,hr⟩:=hf.ac
   have h3:=hr x hx
   have h4:=Up.le (B:=P) (rk:=rk) (fun b hb => hr b (by rw [← e];simp [hb])) hu
   omega
  have h3 : adoE P x.1 x.2 = 0:=by unfold adoE;rw [if_neg hnu]
  have h4 : adoB P x.1 x.2 = P ++ [x]:=by
   unfold adoB
   rw [if_neg hnu]
   unfold insB
   simp only
   rw [hout]
   have ht : P.takeWhile (fun b => ltH b.1 x.1) = P:=tw_all (fun b hb => hso'.2.2 b hb x (by simp))
   have hd : P.dropWhile (fun b => ltH b.1 x.1) = []:=by
    have:=List.takeWhile_append_dropWhile (p:=fun b : Bd => ltH b.1 x.1) (l:=P)
    rw [ht] at this
    exact List.append_cancel_left (this.trans (List.append_nil P).symm)
   rw [ht,hd]
  rw [loadB_go h1 h2 h3,h4]
  exact loadB_self hf hl Q (P ++ [x]) (by rw [List.append_assoc];exact e)
theorem load_self (h : ZOk sl L B) (hp : ∀ b ∈ B,b.2 ∈ allS sl) : zlE (gensS sl) L B = 0 ∧ wlS (gensS sl) L = sl ∧ wlL (gensS sl) L = L ∧ zlB (gensS sl) L B = B:=by
 have h1:=loadB_self (sl:=sl) h.f (fun b hb => ⟨h.c b hb,hp b hb⟩) B [] rfl
 have h2:=zlE_run (gs:=gensS sl) (rows:=L) (bs:=B) (B:=B) (z:=0) (wlE_self h.w) (by rw [wlS_self h.w];exact h1)
 exact ⟨h2.1,wlS_self h.w,wlL_self h.w,h2.2⟩
end
end Go.Proofs.YtfdillpofciicaaGreatDoor
