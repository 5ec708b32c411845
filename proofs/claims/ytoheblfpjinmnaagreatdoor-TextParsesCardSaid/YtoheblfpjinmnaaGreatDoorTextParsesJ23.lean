import Derived.Test.YtoheblfpjinmnaaGreatDoorTextParsesJ22
set_option linter.unusedVariables false
set_option linter.unusedSimpArgs false
/- A part of the proof that TextParses returns true. -/
namespace Go.Proofs.YtoheblfpjinmnaaGreatDoor
open Go Go.RowKit
attribute [local go_sem] AllFrom.cons_eq AllFrom.nil_eq putF_nil putF_cons wantedL_none wantedL_some OpGoalT OpGoalV OpGoalQ OpGoalA OpGoalK YieldsR preF_nil preF_cons
def ZLdPost (gs : List Int) (rows : List Rw) (bs : List Bd) (w : World) (e : Ending) (w' : World) : Prop :=
 Below w.heap.size w w' ∧ ((zlE gs rows bs ≠ 0 ∧ e = .returned (.tuple #[.pointer none,.int .i64 (zlE gs rows bs)])) ∨
  (zlE gs rows bs = 0 ∧ ∃ z p f F,e = .returned (.tuple #[.pointer (some ⟨z,0,none⟩),.int .i64 0]) ∧ RepV z p f (wlS gs rows) (wlL gs rows) (zlB gs rows bs) w' F ∧ (∀ y ∈ F,w.heap.size ≤ y) ∧ ∀ b ∈ zlB gs rows bs,b.1 ∈ allS (wlS gs rows)))
theorem zld_err {gs : List Int} {rows : List Rw} {bs : List Bd} {w w' : World} {z : Int} (h : zlE gs rows bs = z) (hz : z ≠ 0) (hb : Below w.heap.size w w') : ZLdPost gs rows bs w (.returned (.tuple #[.pointer none,.int .i64 z])) w':=by
 subst h
 exact ⟨hb,.inl ⟨hz,rfl⟩⟩
theorem wload_anyZ {w : World} {A A2 : Option Addr} {c c2 : Nat} {gs : List Int} {rows : List Rw} (hg : gs.length ≤ 9223372036854775807) (hr : rows.length ≤ 9223372036854775807) (hA : Lies w w.heap.size A (ints gs)) (hA2 : Lies w w.heap.size A2 (rows.flatMap rwC)) : Calls Tryz.prog 47 #[.slice A gs.length c,.slice A2 rows.length c2] w (WLPost gs rows w):=by
 by_cases h60 : rows.length ≤ 60
 ·exact wload_in h60 hg hA hA2
 ·exact wload_long (by omega) hr
theorem v_parent {z p f : Nat} {sl : Sl} {L : List Rw} {B : List Bd} {w : World} {F : List Nat} (h : RepV z p f sl L B w F) (s g : Int) (hc : HdR (s,g)) : Calls Tryz.prog 50 #[.pointer (some ⟨f,0,none⟩),.agg #[.int .i64 s,.int .i64 g]] w (fun e w' => e = .returned (.tuple #[hdV (parV (parB B (s,g))),.bool (parB B (s,g)).isSome]) ∧ Below w.heap.size w w'):=by
 obtain ⟨FF,h1⟩:=h.f_
 exact parent_any h1 s g hc
set_option maxRecDepth 20000 in
set_option maxHeartbeats 8000000 in
theorem zload_any {w : World} {A1 A2 A3 : Option Addr} {c1 c2 c3 : Nat} {gs : List Int} {rows : List Rw} {bs : List Bd} (hg : gs.length ≤ 9223372036854775807) (hr : rows.length ≤ 9223372036854775807) (hbl : bs.length ≤ 9223372036854775807)
  (hA1 : Lies w w.heap.size A1 (ints gs)) (hA2 : Lies w w.heap.size A2 (rows.flatMap rwC)) (hA3 : Lies w w.heap.size A3 (bs.flatMap bdC)) (hR : ∀ b ∈ bs,HdR b.1 ∧ HdR b.2) :
  Calls Tryz.prog 25 #[.agg #[.slice A1 gs.length c1,.slice A2 rows.length c2,.slice A3 bs.length c3]] w (ZLdPost gs rows bs w):=by
 obtain ⟨w0,hw0,hb0,hz0,hs0⟩:=box1 w (.cells #[.slice A1 gs.length c1,.slice A2 rows.length c2,.slice A3 bs.length c3] 26)
 have H1:=Lib.hid (wload_anyZ (c:=c1) (c2:=c2) hg hr ((hA1.below hb0).mono hb0.size) ((hA2.below hb0).mono hb0.size))
 obtain ⟨o0,o1,o2,ol⟩:=cells3 hz0
 obtain ⟨Hb0,Hz0,HA3,HR,Hs0⟩:=hid5 hb0 hz0 hA3 hR hs0
 clear hb0 hz0 hA3 hR hs0
 clear hA1 hA2
 go_enter Tryz.func25,Tryz.ntmps25
 go_wp2_with fail
 clear hw0 o0 o1 o2 ol
 refine H1.out.mono ?_
 rintro e w1 ⟨hb1,hcase⟩
 have hb01:=Hb0.out.trans (hb1.mono Hb0.out.size)
 rcases hcase with ⟨hne,rfl⟩ | ⟨he0,p,FW,rfl,hW,hFW⟩
 ·have hfin:=zld_err (bs:=bs) (zlE_bad hne) hne hb01
  have hne' : (wlE gs rows != 0) = true:=by simpa using hne
  generalize wlE gs rows = ze at *
  have Hfin:=Lib.hid hfin
  clear hfin
  clear hb1 hne hb01 H1
  go_wp2_with fail
  refine bodyPost_ret (v:=.tuple #[.pointer none,.int .i64 ze]) (by unfold results;try go_simp) rfl Hfin.out
 have hz1:=(Mod.ofBelow hb1).keep Hz0.out (by simp)
 obtain ⟨Hb01,Hz1,HW,HFW,He0⟩:=hid5 hb01 hz1 hW hFW he0
 clear hb01 hz1 hW hFW he0
 clear H1 hb1
 go_wp2_with fail
 refine (famNew_any w1).mono ?_
 rintro e w2 ⟨f,FF,rfl,hF,hFF,hb2⟩
 obtain ⟨w3,hw3,hb3,hz3,hs3⟩:=box1 w2 (.cells #[.pointer (some ⟨p,0,none⟩),.pointer (some ⟨f,0,none⟩)] 100)
 have hlW:=HW.out.lt;have hlF:=hF.lt
 have hs1:=Hb01.out.size;have hs2:=hb2.size
 have hV3 : RepV w2.heap.size p f (wlS gs rows) (wlL gs rows) [] w3 (w2.heap.size :: (FW ++ FF)):=⟨hz3,FW,FF,(HW.out.below hb2).below hb3,hF.below hb3,rfl,fun e => by have:=hlW _ e;omega,fun e => by have:=hlF _ e;omega,fun y hy e => by have h1:=hlW y hy;have h2:=hFF y e;omega⟩
 have hs0:=Hs0.out
 have hge : ∀ y ∈ w2.heap.size :: (FW ++ FF),w0.heap.size ≤ y:=fun y hy => by
  have hh:=Hb0.out.size
  have hh1 : w0.heap.size ≤ w1.heap.size:=by have:=blk_lt Hz1.out;omega
  rcases List.mem_cons.1 hy with rfl | hy
  ·omega
  ·rcases List.mem_append.1 hy with hy | hy
   ·exact HFW.out y hy
   ·have:=hFF y hy;omega
 have hb03:=(Hb01.out.trans (hb2.mono hs1)).trans (hb3.mono (by omega))
 have hz03:=(Mod.ofBelow hb3).keep ((Mod.ofBelow hb2).keep Hz1.out (by simp)) (by simp)
 have hA33:=Lies.below HA3.out hb03
 obtain ⟨LL,hLL⟩ : ∃ LL,wlL gs rows = LL:=⟨_,rfl⟩
 rw [hLL] at hV3
 obtain ⟨sl,hsl⟩ : ∃ sl,wlS gs rows = sl:=⟨_,rfl⟩
 have hfinE : ∀ B z,loadB sl [] bs = (B,z) → zlE gs rows bs = z ∧ zlB gs rows bs = B:=fun B z h => zlE_run He0.out (by rw [hsl];exact h)
 rw [hsl] at hV3
 generalize hFz : w2.heap.size :: (FW ++ FF) = F3 at *
 obtain ⟨o0,o1,o2,ol⟩:=cells3 hz03
 obtain ⟨HV3,Hge,Hb03,Hz03,HA33,Hsl,HLL,HfinE⟩:=hid8 hV3 hge hb03 hz03 hA33 hsl hLL hfinE
 clear hV3 hge hb03 hz03 hA33 hsl hLL hfinE
 clear hb2 hb3 hz3 hlW hlF hs1 hs2 hF hFF hs0 hFz
 go_wp2_with fail
 clear hw3 o0 o1 o2 ol
 generalize w2.heap.size = z at *
 go_loopw [31] (fun i wr => ∃ (k : Nat) (B : List Bd),k ≤ bs.length ∧ i = .int .i64 k ∧ OwnPost (RepV z p f sl LL B) F3 w3 wr ∧ loadB sl B (bs.drop k) = loadB sl [] bs ∧ (∀ b ∈ B,b.1 ∈ allS sl)) (fun i _ => bs.length - (Go.RowKit.intOf i).toNat)
 case atStart => exact ⟨0,[],by omega,rfl,OwnPost.ofBelow (own_V _ _ _ _ _ _) HV3.out (Below.refl _ _),rfl,by simp⟩
 case round =>
  obtain ⟨k,B,hk,rfl,hOP,hld,hC⟩:=hrel
  have hge' : ∀ y ∈ F3,w.heap.size ≤ y:=fun y hy => Nat.le_trans Hb0.out.size (Hge.out y hy)
  have hbr : Below w.heap.size w wr:=Hb03.out.trans (hOP.mod.toBelow hge' Hb03.out.size)
  by_cases hlt : k < bs.length
  ·obtain ⟨ab,ao,rfl,hal,hc⟩:=HA3.out.rec_at bdC_len (by omega) hlt
   have hq : ∀ j u,(bdC bs[k])[j]? = some u → wr.cell? ((⟨ab,ao + k * 4,none⟩ : Addr).add j) = some u:=fun j u hu => (hbr.cell (p:=(⟨ab,ao + k * 4,none⟩ : Addr).add j) (by rw [add_block];exact hal)).trans (by first | exact hc j u hu | (have:=hc j u hu;rw [Addr.add_mid];exact this))
   have hxr:=HR.out _ (List.getElem_mem hlt)
   have hki : (k : Int) < (bs.length : Int):=by omega
   rw [List.drop_eq_getElem_cons hlt] at hld
   generalize bs[k] = x at *
   obtain ⟨⟨s,g⟩,t,u⟩:=x
   simp only at hxr
   obtain ⟨F1,hV,hT⟩:=hOP
   obtain ⟨w4,hw4,hb4,hz4,hs4⟩:=box1 wr (.cells #[.int .i64 s,.int .i64 g,.int .i64 t,.int .i64 u] 55)
   obtain ⟨w5,hw5,hb5,hz5,hs5⟩:=box1 w4 (.cells #[.int .i64 s,.int .i64 g,.int .i64 t,.int .i64 u] 46)
   have hV5:=(hV.below hb4).below hb5
   have hb45:=hb4.trans (hb5.mono hb4.size)
   have hz45:=(Mod.ofBelow hb5).keep hz4 (by simp)
   have hN : wr.heap.size ∉ F1:=fun e => by have:=hV.lt _ e;omega
   have hL : Lies w5 w5.heap.size (some ⟨w4.heap.size,0,none⟩) (([(s,g),(t,u)] : List Hd).flatMap handleC):=by rw [← hw5];exact lies_new rfl
   have HLv:=Lib.hid (vlive_any hV5 _ 2 [(s,g),(t,u)] (by simp) hL)
   have HO:=Lib.hid (bdC_one ((s,g),(t,u)))
   obtain ⟨q0,q1,q2,q3,ql⟩:=cells4 hz4
   have hT5:=hT.below hb45
   obtain ⟨HQ,HLd,HC,Hxr,HV5,HT5,Hz45,HN,Hw4,Hw5,Hbr,Hs4,Hs5,Hb45,Hlt⟩:=hid15 hq hld hC hxr hV5 hT5 hz45 hN hw4 hw5 hbr hs4 hs5 hb45 hlt
   clear hq hld hC hxr hV5 hT5 hz45 hN hw4 hw5 hbr hs4 hs5 hb45 hlt
   clear hc hV hT hb4 hb5 hz4 hz5 hL hge'
   cases hlv : liveZ sl [(s,g),(t,u)] with
   | false =>
    have Hlv:=Lib.hid hlv
    clear hlv
    go_wp2_with (first | (refine wpList_load_flat rfl 55 (.tmp 33) rfl _ rfl [.int .i64 s,.int .i64 g,.int .i64 t,.int .i64 u] _ Tryz.underlying55 rfl (by kernel_rfl) HQ.out ?_) | (refine wpList_store_new rfl 55 (.tmp 8) (.tmp 34) rfl wr (ints [0,0,0,0]) [.int .i64 s,.int .i64 g,.int .i64 t,.int .i64 u] 55 rfl rfl rfl (by kernel_rfl) HO.out ?_;rw [show ([.int .i64 s,.int .i64 g,.int .i64 t,.int .i64 u] : List Value).toArray = #[.int .i64 s,.int .i64 g,.int .i64 t,.int .i64 u] from rfl,Hw4.out]) | fail)
    rw [Hw5.out]
    clear q0 q1 q2 q3 ql
    refine HLv.out.mono ?_
    rintro e w6 ⟨rfl,hb6⟩
    rw [liveE_no Hlv.out]
    have hfin:=zld_err ((HfinE.out B 7 (HLd.out.symm.trans (loadB_dead Hlv.out))).1) (by decide) (Hbr.out.trans ((Hb45.out.trans (hb6.mono Hb45.out.size)).mono Hbr.out.size))
    have Hfin:=Lib.hid hfin
    clear hfin
    clear hb6
    go_wp2_with fail
    refine bodyPost_ret (v:=.tuple #[.pointer none,.int .i64 7]) (by unfold results;try go_simp) rfl Hfin.out
   | true =>
    have Hlv:=Lib.hid hlv
    clear hlv
    go_wp2_with (first | (refine wpList_load_flat rfl 55 (.tmp 33) rfl _ rfl [.int .i64 s,.int .i64 g,.int .i64 t,.int .i64 u] _ Tryz.underlying55 rfl (by kernel_rfl) HQ.out ?_) | (refine wpList_store_new rfl 55 (.tmp 8) (.tmp 34) rfl wr (ints [0,0,0,0]) [.int .i64 s,.int .i64 g,.int .i64 t,.int .i64 u] 55 rfl rfl rfl (by kernel_rfl) HO.out ?_;rw [show ([.int .i64 s,.int .i64 g,.int .i64 t,.int .i64 u] : List Value).toArray = #[.int .i64 s,.int .i64 g,.int .i64 t,.int .i64 u] from rfl,Hw4.out]) | fail)
    rw [Hw5.out]
    clear q0 q1 q2 q3 ql
    refine HLv.out.mono ?_
    rintro e w6 ⟨rfl,hb6⟩
    rw [liveE_ok Hlv.out]
    have hV6:=HV5.out.below hb6
    have hT6:=HT5.out.below hb6
    have hz6:=(Mod.ofBelow hb6).keep Hz45.out (by simp)
    have hb06:=Hbr.out.trans ((Hb45.out.trans (hb6.mono Hb45.out.size)).mono Hbr.out.size)
    obtain ⟨o,ho⟩ : ∃ o,parB B (s,g) = o:=⟨_,rfl⟩
    obtain ⟨⟨ps,pg⟩,hps⟩ : ∃ x,parV o = x:=⟨_,rfl⟩
    have hPr:=fun V (hb : Below w6.heap.size w6 V) => v_parent (hV6.below hb) s g Hxr.out.1
    rw [ho] at hPr
    simp only [hdV,handleC,hps] at hPr
    obtain ⟨bo,hbo⟩ : ∃ bo,o.isSome = bo:=⟨_,rfl⟩
    rw [hbo] at hPr
    obtain ⟨zl,hzl⟩ : ∃ zl,zl = ints [0,0]:=⟨_,rfl⟩
    obtain ⟨rl,hrl⟩ : ∃ rl,rl = ints [ps,pg]:=⟨_,rfl⟩
    obtain ⟨HV6,HT6,Hz6,Hb06,Ho,Hbo,HPr,Hzl,Hrl⟩:=hid9 hV6 hT6 hz6 hb06 ho hbo hPr hzl hrl
    clear hV6 hT6 hz6 hb06 ho hbo hPr hzl hrl
    clear hb6 hps
    go_wp2_with fail
    refine wp_planK [10] 12 [0] [some 46,some 47,some 48,some 49,some 50,some 51,some 52,some 45,some 53,some 54,some 10,none,some 11] [[],[0],[0,1],[0,1,2],[],[4],[0,1,2,3,4,5],[0,1,2,3,4,5,6],[0,1,2,3,4,5,6,7],[0,1,2,3,4,5,6,7],[],[0,1,2,3,4,5,6,7,8,10],[0,1,2,3,4,5,6,7,8,9,10,11]] [0,1,2,3,4,5,6,7,8,9,10,11] (fun Lf σ W => IGet 10 11 w6 zl.toArray rl.toArray 46 Lf σ W) mixed rfl (by kernel_rfl) (by decide) (by decide) (by decide) (IGet.start below_drew) rfl ?_
    iterate 12 apply Exists.intro
    refine ⟨rfl,?_,?_⟩
    ·simp only [tS,List.take_zero,AllFrom.cons_eq,AllFrom.nil_eq,OpGoalK]
     refine ⟨?_,?_,?_,?_,?_,?_,?_,?_,?_,?_,?_,?_,trivial⟩
     all_goals (intro L' σ V h1 h2 h3 hI hp;have HA1:=Lib.hid h1;have HA2:=Lib.hid h2;have HA3:=Lib.hid h3;clear h1 h2 h3;(try simp only [gZ,gS,preK_cons,preK_nil] at hp);(try simp only [List.mem_cons,List.not_mem_nil,or_false,eq_self,Nat.reduceEqDiff,Nat.reduceAdd,Nat.zero_add,false_or,true_or,true_and,and_true] at hp);(first | (have hq : True:=hp;clear hq hp) | skip);have HI:=Lib.hid hI;clear hI)
     all_goals (
      have hA:=(HV6.out.below HI.out.b).cells
      have hc1:=hA.2.1;have hzl':=hA.2.2
      have hzV:=(Mod.ofBelow HI.out.b).keep Hz6.out (by simp)
      have q0:=blk_cell hzV 0
      have q1:=blk_cell hzV 1
      have q2:=blk_cell hzV 2
      have q3:=blk_cell hzV 3
      simp only [eA,eZ,eS] at q0 q1 q2 q3
      have ql:=blk_lt hzV
      clear hA hzV)
     iterate 6 · (go_simp;exact ⟨.inr rfl,HI.out.read (by decide) (by decide) _⟩)
     ·(go_simp;refine (HPr.out V HI.out.b).mono ?_;rintro e V2 ⟨rfl,hb⟩;exact ⟨_,rfl,.inr rfl,(HI.out.step hb).read (by decide) (by decide) _⟩)
     iterate 3 · (go_simp;exact ⟨.inr rfl,HI.out.read (by decide) (by decide) _⟩)
     ·go_simp
      have hmk:=HI.out.made (by decide) (HA3.out 11 (by decide))
      rw [Hzl.out] at hmk ⊢
      exact PostK.mk (c:=undef) (.inl (by decide)) hmk
     ·simp only [wantedL_none,if_true,Nat.reduceAdd,Nat.zero_add]
      have x3:=HA1.out
      simp only [Nat.reduceAdd,Nat.zero_add] at x3
      generalize hρ : Act.eval _ = ρ
      refine IGet.yr_stored HI.out (by decide) (HA2.out 10 (by decide)) x3 (by rw [Hzl.out,Hrl.out];rfl) 46 (.tmp 10) (.tmp 53) rfl ?_ ?_ (by rw [Hrl.out];kernel_rfl) (by rw [Hrl.out];exact ints_one _) (fun V' hV' => PostK.mk (c:=undef) (.inr rfl) hV')
      ·rw [← hρ]
       go_simp
      ·rw [← hρ]
       go_simp
       rw [Hrl.out]
       rfl
    ·intro L' σ V h1 hI hp
     obtain ⟨r,s9,hr,hst⟩:=hI.blk (h1 10 (by decide))
     clear h1
     simp only [preK_cons,preK_nil,gZ,gS] at hp;simp only [List.mem_cons,List.not_mem_nil,or_false,eq_self,Nat.reduceEqDiff,false_or,true_or,true_and,and_true] at hp
     have hbV:=hI.b
     have hVV:=HV6.out.below hbV
     have hTV:=HT6.out.below hbV
     have hzV:=(Mod.ofBelow hbV).keep Hz6.out (by simp)
     have hb0V:=Hb06.out.trans (hbV.mono Hb06.out.size)
     have hNV : wr.heap.size ∉ F1:=HN.out
     have hfin6:=fun (hh : bo = true) => zld_err ((HfinE.out B 6 (HLd.out.symm.trans (loadB_twice Hlv.out (by simp only;rw [Ho.out,Hbo.out];exact hh)))).1) (by decide) hb0V
     obtain ⟨HVV,HTV,HzV,Hb0V,Hfin6⟩:=hid5 hVV hTV hzV hb0V hfin6
     clear hVV hTV hzV hb0V hfin6
     clear hI hst hr hbV
     simp only [dS,List.drop_zero]
     go_simp
     clear hp
     generalize σ 10 = v10 at *
     subst s9
     go_wp2_with fail
     refine ⟨rfl,?_⟩
     cases hbo2 : bo with
     | true =>
      have hfin:=Hfin6.out hbo2
      have Hfin:=Lib.hid hfin
      clear hfin
      subst hbo2
      go_wp2_with fail
      refine bodyPost_ret (v:=.tuple #[.pointer none,.int .i64 6]) (by unfold results;try go_simp) rfl Hfin.out
     | false =>
      have Hno:=Lib.hid (show (parB B (s,g)).isSome = false by rw [Ho.out,Hbo.out];exact hbo2)
      subst hbo2
      go_wp2_with fail
      refine wp_planK [] 9 [0] [some 56,some 57,some 58,some 59,some 60,some 61,some 62,some 63,some 64,some 12] [[],[0],[0,1],[0,1,2],[],[4],[],[6],[0,1,2,3,4,5,6,7],[0,1,2,3,4,5,6,7,8]] [0,1,2,3,4,5,6,7,8] (fun Lf σ W => ITurn 8 V F1 (RepV z p f sl LL (adoB B (s,g) (t,u))) Lf σ W) mixed rfl (by kernel_rfl) (by decide) (by decide) (by decide) (ITurn.start below_drew) rfl ?_
      iterate 9 apply Exists.intro
      refine ⟨rfl,?_,?_⟩
      ·simp only [tS,List.take_zero,AllFrom.cons_eq,AllFrom.nil_eq,OpGoalK]
       refine ⟨?_,?_,?_,?_,?_,?_,?_,?_,?_,trivial⟩
       all_goals (intro L' σ V h1 h2 h3 hI hp;have HA1:=Lib.hid h1;have HA2:=Lib.hid h2;have HA3:=Lib.hid h3;clear h1 h2 h3;(try simp only [gZ,gS,preK_cons,preK_nil] at hp);(try simp only [List.not_mem_nil,false_or,and_true] at hp);(first | (have hq : True:=hp;clear hq hp) | skip);have HI:=Lib.hid hI;clear hI)
       all_goals (
        have hk:=HI.out.k
        have hzW:=hk.keep HzV.out HN.out
        have q0:=blk_cell hzW 0
        have q1:=blk_cell hzW 1
        have q2:=blk_cell hzW 2
        have q3:=blk_cell hzW 3
        simp only [eA,eZ,eS] at q0 q1 q2 q3
        have ql:=blk_lt hzW
        have hb:=HI.out.s0 (by first | exact HA3.out 8 (by decide) | exact HA1.out)
        have hRV:=HVV.out.below hb
        have hA:=hRV.cells
        have hc1:=hA.2.1;have hzl':=hA.2.2
        have HRV:=Lib.hid hRV
        clear hk hzW hA hRV hb)
       iterate 8 · (go_simp;exact ⟨.inr rfl,HI.out.read (by decide) _⟩)
       ·(go_simp;refine (v_adopt HRV.out s g t u Hxr.out.1 Hxr.out.2).mono ?_;rintro e V2 ⟨rfl,hp2⟩;exact ⟨_,rfl,.inr rfl,HI.out.turn HA1.out hp2 _⟩)
      ·intro L' σ V7 h1 hI hp
       have hP:=hI.s1 (h1 8 (by decide))
       clear h1 hI
       simp only [preK_cons,preK_nil,gZ,gS] at hp;simp only [List.not_mem_nil,false_or,and_true] at hp
       have hOP7 : OwnPost (RepV z p f sl LL (adoB B (s,g) (t,u))) F3 w3 V7:=by
        obtain ⟨F4,h3,h4⟩:=hP
        exact ⟨F4,h3,HTV.out.trans h4⟩
       have hge' : ∀ y ∈ F3,w.heap.size ≤ y:=fun y hy => Nat.le_trans Hb0.out.size (Hge.out y hy)
       have hb7 : Below w.heap.size w V7:=Hb03.out.trans (hOP7.mod.toBelow hge' Hb03.out.size)
       obtain ⟨HOP7,Hb7⟩:=hid2 hOP7 hb7
       clear hOP7 hb7
       clear hP hge'
       simp only [dS,List.drop_zero]
       go_simp
       clear hp
       rcases adoE_cases B (s,g) (t,u) with he | he
       ·have hgo:=(loadB_go (r:=bs.drop (k + 1)) Hlv.out Hno.out he).symm.trans HLd.out
        have hC7:=adoB_live (a:=(s,g)) (b:=(t,u)) HC.out ((liveB_iff sl s g).1 (by have h:=Hlv.out;rw [liveZ_two] at h;exact (Bool.and_eq_true _ _ ▸ h).1))
        rw [he]
        obtain ⟨Hgo,HC7⟩:=hid2 hgo hC7
        clear hgo hC7
        clear he
        have hlt:=Hlt.out
        go_wp2_with fail
        refine ⟨rfl,?_⟩
        go_wp2
        go_roundw
        case rel => exact ⟨k + 1,_,by omega,by go_num,HOP7.out,Hgo.out,HC7.out⟩
        case measure => simp [Go.RowKit.intOf];omega
       ·have hfin:=zld_err ((HfinE.out B 8 (HLd.out.symm.trans ((loadB_loop Hlv.out Hno.out (by simp only;rw [he];decide)).trans (by simp only;rw [he])))).1) (by decide) Hb7.out
        rw [he]
        have Hfin:=Lib.hid hfin
        clear hfin
        clear he
        go_wp2_with fail
        refine ⟨rfl,?_⟩
        go_wp2_with fail
        refine bodyPost_ret (v:=.tuple #[.pointer none,.int .i64 8]) (by unfold results;try go_simp) rfl Hfin.out
  ·obtain rfl : k = bs.length:=by omega
   rw [List.drop_length] at hld
   obtain ⟨e1,e2⟩:=HfinE.out B 0 hld.symm
   obtain ⟨F4,h4,h5⟩:=hOP
   have hfin : ZLdPost gs rows bs w (.returned (.tuple #[.pointer (some ⟨z,0,none⟩),.int .i64 0])) wr:=by
    refine ⟨hbr,.inr ⟨e1,z,p,f,F4,rfl,?_,fun y hy => ?_,?_⟩⟩
    ·rw [Hsl.out,HLL.out,e2];exact h4
    ·rcases h5.new y hy with h | h
     ·exact hge' y h
     ·exact Nat.le_trans Hb03.out.size h
    ·rw [Hsl.out,e2];exact hC
   have Hfin:=Lib.hid hfin
   clear hfin
   clear h4 h5 hbr hge' hld hC hlt e1 e2
   go_wp2_with fail
   refine bodyPost_ret (v:=.tuple #[.pointer (some ⟨z,0,none⟩),.int .i64 0]) (by unfold results;try go_simp) rfl Hfin.out
end Go.Proofs.YtoheblfpjinmnaaGreatDoor
