import Derived.Test.YtoheblfpjinmnaaGreatDoorTextParsesJ27
set_option linter.unusedVariables false
set_option linter.unusedSimpArgs false
/- A part of the proof that TextParses returns true. -/
namespace Go.Proofs.YtoheblfpjinmnaaGreatDoor
open Go Go.RowKit
attribute [local go_sem] AllFrom.cons_eq AllFrom.nil_eq putF_nil putF_cons wantedL_none wantedL_some OpGoalT OpGoalV OpGoalQ OpGoalA OpGoalK YieldsR preF_nil preF_cons ByteArray.mk_append_mk
theorem rkindsKn_any (kn : Nat) (hk : kn < 256) (w : World) : Calls Tryz.prog 42 #[.int .i64 (kn : Int)] w (MadeInts w.heap.size ((natKinds kn 8).map fun (k : Nat) => (k : Int)) w):=by
 have h:=kinds_any (kn : Int) w
 rw [low8_nat _ hk] at h
 exact h
theorem RepQ.parts {q : Nat} {sl : Sl} {L : List Rw} {B : List Bd} {w : World} {F : List Nat} (h : RepQ q sl L B w F) : ∃ Ar cr Ab cb,w.cell? ⟨q,2,none⟩ = some (.slice Ar L.length cr) ∧ w.cell? ⟨q,3,none⟩ = some (.slice Ab B.length cb) ∧ q < w.heap.size ∧ Lies w w.heap.size Ar (L.flatMap rwC) ∧ Lies w w.heap.size Ab (B.flatMap bdC):=by
 obtain ⟨vB,FZ,⟨vL,FS,⟨vg,vl,g1,g2,g3,-,-⟩,g5,-,-⟩,k2,-,-⟩:=h
 obtain ⟨Ar,cr,rfl,hcr,hLr⟩:=row_lies g5
 obtain ⟨Ab,cb,rfl,hcb,hLb⟩:=row_lies k2
 have e1:=blk_cell g1 2
 have e2:=blk_cell g1 3
 exact ⟨Ar,cr,Ab,cb,by simpa using e1,by simpa using e2,blk_lt g1,hLr,hLb⟩
set_option maxRecDepth 100000 in
set_option maxHeartbeats 8000000 in
theorem rprint_any {w : World} {A1 A2 A3 : Option Addr} {c1 c2 c3 : Nat} {gs : List Int} {rows : List Rw} {bs : List Bd} (hg : gs.length ≤ 1200000000000000) (hr : rows.length ≤ 1200000000000000) (hbl : bs.length ≤ 1200000000000000)
  (hA1 : Lies w w.heap.size A1 (ints gs)) (hA2 : Lies w w.heap.size A2 (rows.flatMap rwC)) (hA3 : Lies w w.heap.size A3 (bs.flatMap bdC)) :
  Calls Tryz.prog 18 #[.agg #[.slice A1 gs.length c1,.slice A2 rows.length c2,.slice A3 bs.length c3]] w fun e w' => e = .returned (.tuple #[str (printS gs rows bs),.int .i64 (printE gs rows bs)]) ∧ Below w.heap.size w w':=by
 obtain ⟨w0,hw0,hb0,hz0,hs0⟩:=box1 w (.cells #[.slice A1 gs.length c1,.slice A2 rows.length c2,.slice A3 bs.length c3] 26)
 have hB1:=(hA1.below hb0).mono hb0.size;have hB2:=(hA2.below hb0).mono hb0.size;have hB3:=(hA3.below hb0).mono hb0.size
 have H1:=Lib.hid (qload_any (c1:=c1) (c2:=c2) (c3:=c3) (by omega) (by omega) (by omega) hB1 hB2 hB3 (fun h => (wlok_of h).wok))
 have HLA:=Lib.hid (And.intro hA1 (And.intro hA2 hA3))
 obtain ⟨o0,o1,o2,ol⟩:=cells3 hz0
 obtain ⟨Hb0,Hz0⟩:=hid2 hb0 hz0
 clear hb0 hz0
 clear hA1 hA2 hA3 hB1 hB2 hB3 hs0
 go_enter Tryz.func18,Tryz.ntmps18
 go_wp2_with fail
 clear hw0 o0 o1 o2 ol
 refine H1.out.mono ?_
 rintro e w1 ⟨hb1,hcase⟩
 have hz1:=(Mod.ofBelow hb1).keep Hz0.out (by simp)
 have hb01:=Hb0.out.trans (hb1.mono Hb0.out.size)
 rcases hcase with ⟨hne,rfl⟩ | ⟨he0,q,F,rfl,hQ,-⟩
 ·have hne' : (zlE gs rows bs != 0) = true:=by simpa using hne
  have hpe:=printE_load hne
  have hps : printS gs rows bs = []:=by unfold printS;rw [hpe,if_neg hne]
  generalize zlE gs rows bs = ze at *
  obtain ⟨Hne,Hb01,Hpe,Hps,Hz1⟩:=hid5 hne hb01 hpe hps hz1
  clear hne hb01 hpe hps hz1
  clear H1 hb1
  go_wp2
  go_ret2
  exact ⟨by rw [Hps.out,Hpe.out];rfl,Hb01.out⟩
 ·obtain ⟨Ar,cr,Ab,cb,hq1,hq2,hql,hLr,hLb⟩:=hQ.parts
  have hzo:=zok_of he0
  have h60r:=hzo.w.len
  have h60b:=hzo.len
  have H2:=Lib.hid (fun V (hb : Below w1.heap.size w1 V) => eqRow_any Ar cr A2 c2 (wlL gs rows) rows V (by omega) (by omega) ((hLr.below hb).mono hb.size) ((HLA.out.2.1.below (hb01.trans (hb.mono hb01.size))).mono (hb01.trans (hb.mono hb01.size)).size))
  have H3:=Lib.hid (fun V (hb : Below w1.heap.size w1 V) => eqBond_any Ab cb A3 c3 (zlB gs rows bs) bs V (by omega) (by omega) ((hLb.below hb).mono hb.size) ((HLA.out.2.2.below (hb01.trans (hb.mono hb01.size))).mono (hb01.trans (hb.mono hb01.size)).size))
  have hpz : printE gs rows bs = if eqB (wlL gs rows) rows = true ∧ eqB (zlB gs rows bs) bs = true then 0 else 4:=by
   unfold printE;rw [if_pos he0];simp only [eqB,decide_eq_true_eq]
  have Hps:=Lib.hid (show printS gs rows bs = if printE gs rows bs = 0 then printX gs rows bs else [] from rfl)
  have hlens : rows.length ≤ 60 ∧ gs.length ≤ 60:=by
   have hk:=wlok_of (zlE_zero he0).1
   exact ⟨hk.len,hk.i.len⟩
  obtain ⟨o0,o1,o2,ol⟩:=cells3 hz1
  cases heq1 : eqB (wlL gs rows) rows with
  | false =>
   rw [heq1] at H2 hpz
   have hpe : printE gs rows bs = 4:=by rw [hpz];simp
   have hps : printS gs rows bs = []:=by rw [Hps.out,hpe];rfl
   obtain ⟨Hb01,Hb1,He0,Hz1,Hzo,HLr,HLb,Hpz,HQ,Hpe,HPS⟩:=hid11 hb01 hb1 he0 hz1 hzo hLr hLb hpz hQ hpe hps
   clear hb01 hb1 he0 hz1 hzo hLr hLb hpz hQ hpe hps
   clear H1 heq1 H3
   go_wp2_with fail
   clear o0 o1 o2 ol
   refine wp_planK [] 15 [0] [some 23,some 24,some 25,some 26,some 27,some 28,some 29,some 30,some 31,some 32,some 33,some 34,some 35,some 36,some 37,some 38,some 39,some 40] [[],[0],[0,1],[0,1,2],[],[4],[0,1,2,3,4,5],[0,1,2,3,4,5,6],[0,1,2,3,4,5,6,7],[0,1,2,3,4,5,6,7,8],[0,1,2,3,4,5,6,7,8,9],[0,1,2,3,4,5,6,7,8,9,10],[0,1,2,3,4,5,6,7,8,9,10,11],[0,1,2,3,4,5,6,7,8],[0,1,2,3,4,5,6,7,8,13],[0,1,2,3,4,5,6,7,8,9,10,11,12,13,14],[0,1,2,3,4,5,6,7,8,9,10,11,12,13,14,15],[0,1,2,3,4,5,6,7,8,9,10,11,12,13,14,15,16]] [0,1,2,3,4,5,6,7,8,9,10,11,12,13,14] (fun Lf σ V => Below w1.heap.size w1 V) mixed rfl (by kernel_rfl) (by decide) (by decide) (by decide) below_drew rfl ?_
   iterate 15 apply Exists.intro
   refine ⟨rfl,?_,?_⟩
   ·simp only [tS,List.take_zero,AllFrom.cons_eq,AllFrom.nil_eq,OpGoalK]
    refine ⟨?_,?_,?_,?_,?_,?_,?_,?_,?_,?_,?_,?_,?_,?_,?_,trivial⟩
    all_goals (intro L' σ V h1 h2 h3 hI hp;have HA1:=Lib.hid h1;have HA2:=Lib.hid h2;have HA3:=Lib.hid h3;clear h1 h2 h3;(try simp only [gZ,gS,preK_cons,preK_nil] at hp);(try simp only [List.mem_cons,List.not_mem_nil,or_false,eq_self,Nat.reduceEqDiff,Nat.reduceAdd,Nat.zero_add,false_or,true_or,true_and,and_true] at hp);(first | (have hq : True:=hp;clear hq hp) | skip);have HI:=Lib.hid hI;clear hI)
    all_goals (
     have hzV:=(Mod.ofBelow HI.out).keep Hz1.out (by simp)
     have hq1V:=(HI.out.cell (p:=⟨q,2,none⟩) hql).trans hq1
     have hq2V:=(HI.out.cell (p:=⟨q,3,none⟩) hql).trans hq2
     have o0:=blk_cell hzV 0
     have o1:=blk_cell hzV 1
     have o2:=blk_cell hzV 2
     simp only [eA,eZ,eS] at o0 o1 o2
     have ol:=blk_lt hzV
     clear hzV)
    iterate 6 · (go_simp;exact ⟨.inr rfl,HI.out⟩)
    ·go_simp
     refine (H2.out V HI.out).mono ?_
     rintro e V' ⟨rfl,hb⟩
     exact ⟨_,rfl,.inr rfl,HI.out.trans (hb.mono HI.out.size)⟩
    iterate 8 · (go_simp;exact ⟨.inr rfl,HI.out⟩)
   ·intro L' σ w2 h1 hI hp
    have hb2:=hI
    clear h1 hI
    simp only [preK_cons,preK_nil,gZ,gS] at hp;simp only [List.mem_cons,List.not_mem_nil,or_false,eq_self,Nat.reduceEqDiff,false_or,true_or,true_and,and_true] at hp
    simp only [dS,List.drop_zero]
    go_simp
    clear hp
    have Hf:=Lib.hid (Hb01.out.trans (hb2.mono Hb01.out.size))
    clear hb2
    go_wp2
    refine ⟨rfl,?_⟩
    go_wp2
    go_ret2
    exact ⟨by rw [HPS.out,Hpe.out];rfl,Hf.out⟩
  | true =>
   rw [heq1] at H2 hpz
   obtain ⟨Hb01,Hb1,He0,Hz1,Hzo,HLr,HLb,Hpz,HQ⟩:=hid9 hb01 hb1 he0 hz1 hzo hLr hLb hpz hQ
   clear hb01 hb1 he0 hz1 hzo hLr hLb hpz hQ
   clear H1 heq1
   go_wp2_with fail
   clear o0 o1 o2 ol
   refine wp_planK [] 15 [0] [some 23,some 24,some 25,some 26,some 27,some 28,some 29,some 30,some 31,some 32,some 33,some 34,some 35,some 36,some 37,some 38,some 39,some 40] [[],[0],[0,1],[0,1,2],[],[4],[0,1,2,3,4,5],[0,1,2,3,4,5,6],[0,1,2,3,4,5,6,7],[0,1,2,3,4,5,6,7,8],[0,1,2,3,4,5,6,7,8,9],[0,1,2,3,4,5,6,7,8,9,10],[0,1,2,3,4,5,6,7,8,9,10,11],[0,1,2,3,4,5,6,7,8],[0,1,2,3,4,5,6,7,8,13],[0,1,2,3,4,5,6,7,8,9,10,11,12,13,14],[0,1,2,3,4,5,6,7,8,9,10,11,12,13,14,15],[0,1,2,3,4,5,6,7,8,9,10,11,12,13,14,15,16]] [0,1,2,3,4,5,6,7,8,9,10,11,12,13,14] (fun Lf σ V => Below w1.heap.size w1 V) mixed rfl (by kernel_rfl) (by decide) (by decide) (by decide) below_drew rfl ?_
   iterate 15 apply Exists.intro
   refine ⟨rfl,?_,?_⟩
   ·simp only [tS,List.take_zero,AllFrom.cons_eq,AllFrom.nil_eq,OpGoalK]
    refine ⟨?_,?_,?_,?_,?_,?_,?_,?_,?_,?_,?_,?_,?_,?_,?_,trivial⟩
    all_goals (intro L' σ V h1 h2 h3 hI hp;have HA1:=Lib.hid h1;have HA2:=Lib.hid h2;have HA3:=Lib.hid h3;clear h1 h2 h3;(try simp only [gZ,gS,preK_cons,preK_nil] at hp);(try simp only [List.mem_cons,List.not_mem_nil,or_false,eq_self,Nat.reduceEqDiff,Nat.reduceAdd,Nat.zero_add,false_or,true_or,true_and,and_true] at hp);(first | (have hq : True:=hp;clear hq hp) | skip);have HI:=Lib.hid hI;clear hI)
    all_goals (
     have hzV:=(Mod.ofBelow HI.out).keep Hz1.out (by simp)
     have hq1V:=(HI.out.cell (p:=⟨q,2,none⟩) hql).trans hq1
     have hq2V:=(HI.out.cell (p:=⟨q,3,none⟩) hql).trans hq2
     have o0:=blk_cell hzV 0
     have o1:=blk_cell hzV 1
     have o2:=blk_cell hzV 2
     simp only [eA,eZ,eS] at o0 o1 o2
     have ol:=blk_lt hzV
     clear hzV)
    iterate 6 · (go_simp;exact ⟨.inr rfl,HI.out⟩)
    ·go_simp
     refine (H2.out V HI.out).mono ?_
     rintro e V' ⟨rfl,hb⟩
     exact ⟨_,rfl,.inr rfl,HI.out.trans (hb.mono HI.out.size)⟩
    iterate 8 · (go_simp;exact ⟨.inr rfl,HI.out⟩)
   ·intro L' σ w2 h1 hI hp
    have hb2:=hI
    clear h1 hI
    simp only [preK_cons,preK_nil,gZ,gS] at hp;simp only [List.mem_cons,List.not_mem_nil,or_false,eq_self,Nat.reduceEqDiff,false_or,true_or,true_and,and_true] at hp
    simp only [dS,List.drop_zero]
    go_simp
    clear hp
    have H4:=Lib.hid (H3.out _ hb2)
    have hb02:=Hb01.out.trans (hb2.mono Hb01.out.size)
    have hz2:=(Mod.ofBelow hb2).keep Hz1.out (by simp)
    have Hb02:=Lib.hid hb02
    clear hb02
    clear hb2
    go_wp2_with fail
    refine H4.out.mono ?_
    rintro e w3 ⟨rfl,hb3⟩
    have hz3:=(Mod.ofBelow hb3).keep hz2 (by simp)
    have hb03:=Hb02.out.trans (hb3.mono Hb02.out.size)
    clear hz2
    cases heq2 : eqB (zlB gs rows bs) bs with
    | false =>
     have hpe : printE gs rows bs = 4:=by rw [Hpz.out,heq2];simp
     have hps : printS gs rows bs = []:=by rw [Hps.out,hpe];rfl
     obtain ⟨Hpe,HPS,Hb03⟩:=hid3 hpe hps hb03
     clear hpe hps hb03
     clear heq2 hz3
     go_wp2
     refine ⟨rfl,?_⟩
     go_wp2
     go_ret2
     exact ⟨by rw [HPS.out,Hpe.out];rfl,Hb03.out⟩
    | true =>
     have hpe : printE gs rows bs = 0:=by rw [Hpz.out,heq2];simp
     have hps : printS gs rows bs = printX gs rows bs:=by rw [Hps.out,hpe];rfl
     have htok:=tok_of hpe
     have hb60:=bonds_60 hpe
     have HP0:=Lib.hid (And.intro hpe hps)
     have hA3:=(HLA.out.1.below hb03).mono hb03.size
     have Hlg:=Lib.hid (fun k => nums_len (l:=gs.take k) (fun n hn => smallI_in (htok.g n (List.mem_of_mem_take hn))))
     obtain ⟨o0,o1,o2,ol⟩:=cells3 hz3
     obtain ⟨Hb03,Hz3,Htok,HA3⟩:=hid4 hb03 hz3 htok hA3
     clear hb03 hz3 htok hA3
     clear heq2 hpe hps H2 H3 H4
     go_wp2
     refine ⟨rfl,?_⟩
     go_wp2_with fail
     clear o0 o1 o2 ol
     go_loopw [6,44] (fun u i wr => ∃ k : Nat,k ≤ gs.length ∧ i = .int .i64 k ∧ u = .string ⟨(wGens ++ nums (gs.take k)).toArray⟩ ∧ Below w3.heap.size w3 wr) (fun u i wr => gs.length - (Go.RowKit.intOf i).toNat)
     case atStart => exact ⟨0,by omega,rfl,by simp [nums,wGens],Below.refl _ _⟩
     case round =>
      obtain ⟨k,hk,rfl,rfl,hbw⟩:=hrel
      by_cases hlt : k < gs.length
      ·obtain ⟨ag,rfl,hag,hgc⟩:=(HA3.out.below hbw).int hlt
       have hs:=nums_take gs k hlt
       have hsm:=Htok.out.g _ (List.getElem_mem hlt)
       have hlen:=Hlg.out k
       rw [List.length_take] at hlen
       generalize gs[k] = x at *
       have H5:=Lib.hid (fun V => digits_any hsm V)
       unfold DigPost at H5
       have hlx:=itoa_small hsm
       have hwl : (wGens : Bs).length = 4:=rfl
       have hno : ¬ 9223372036854775807 < (wGens : Bs).length + (nums (gs.take k)).length + ((Lib.itoa x).length + 1):=by omega
       have hno2 : ¬ 9223372036854775807 < 1 + (Lib.itoa x).length:=by omega
       obtain ⟨Hbw,Hs,Hsm,Hlen,Hlx,Hwl⟩:=hid6 hbw hs hsm hlen hlx hwl
       clear hbw hs hsm hlen hlx hwl
       go_wp2_with fail
       refine (H5.out _).mono ?_
       rintro e V ⟨rfl,hbV⟩
       have hbV:=Hbw.out.trans (hbV.mono Hbw.out.size)
       have HbV:=Lib.hid hbV
       clear hbV
       go_wp2
       go_roundw
       case rel => exact ⟨k + 1,by omega,by go_num,by rw [Hs.out],HbV.out⟩
       case measure => simp [Go.RowKit.intOf];omega
      ·obtain rfl : k = gs.length:=by omega
       rw [List.take_length]
       have hgx : wGens ++ nums gs = gensX gs:=rfl
       rw [hgx]
       have hlgx:=gens_len Htok.out hlens.2
       have hno : ¬ 9223372036854775807 < (gensX gs).length + 1:=by omega
       have hzr:=(Mod.ofBelow hbw).keep Hz3.out (by simp)
       obtain ⟨o0,o1,o2,ol⟩:=cells3 hzr
       obtain ⟨Hbw,Hgx,Hzr⟩:=hid3 hbw hgx hzr
       clear hbw hgx hzr
       go_wp2_with fail
       go_loopw [6,59] (fun u i wr => ∃ k : Nat,k ≤ rows.length ∧ i = .int .i64 k ∧ u = .string ⟨(lnX (gensX gs) ++ (rows.take k).flatMap (fun r => lnX (rowX r))).toArray⟩ ∧ Below w3.heap.size w3 wr) (fun u i _ => rows.length - (Go.RowKit.intOf i).toNat)
       case atStart => exact ⟨0,by omega,rfl,by simp [lnX],Hbw.out⟩
       case round =>
        obtain ⟨k,hk,rfl,rfl,hbw⟩:=hrel
        clear o0 o1 o2 ol
        have hsz:=hbw.size
        have hb0r:=Hb03.out.trans (hbw.mono Hb03.out.size)
        have hrl:=rows_len Htok.out (l:=rows.take k) (fun r hr => List.mem_of_mem_take hr)
        rw [List.length_take] at hrl
        have hal : (lnX (gensX gs) ++ (rows.take k).flatMap (fun r => lnX (rowX r))).length ≤ 50000:=by
         rw [List.length_append];unfold lnX at *;rw [List.length_append];simp only [List.length_cons,List.length_nil];omega
        by_cases hlt : k < rows.length
        ·obtain ⟨ab,ao,rfl,hab,hc⟩:=(HLA.out.2.1.below hb0r).rec_at rwC_len (by omega) hlt
         have hc1 : ∀ j u,(rwC rows[k])[j]? = some u → wr.cell? ((⟨ab,ao + k * 11,none⟩ : Addr).add j) = some u:=fun j u hu => by
          have:=hc j u hu
          rw [Addr.add_mid];exact this
         have htr:=Htok.out.r _ (List.getElem_mem hlt)
         have hrx:=row_len Htok.out (List.getElem_mem hlt)
         have hts : (rows.take (k + 1)).flatMap (fun r => lnX (rowX r)) = (rows.take k).flatMap (fun r => lnX (rowX r)) ++ lnX (rowX rows[k]):=by rw [take_succ_get rows k hlt,List.flatMap_append];simp
         have hki : (k : Int) < (rows.length : Int):=by omega
         generalize rows[k] = x at *
         obtain ⟨⟨s,g⟩,K,a0,a1,a2,a3,a4,a5,a6,a7⟩:=x
         generalize hacc : lnX (gensX gs) ++ (rows.take k).flatMap (fun r => lnX (rowX r)) = acc at *
         have Hacc:=Lib.hid hacc
         clear hacc
         obtain ⟨kn,hkn,hK,hvs⟩:=(beastZ_iff _).1 htr.2.2
         simp only at hK
         subst hK
         have hval : ∀ j,j < 8 → SmallI (valK j ((kn : Int),a0,a1,a2,a3,a4,a5,a6,a7)):=fun j hj => val_small (r:=((s,g),((kn : Int),a0,a1,a2,a3,a4,a5,a6,a7))) htr.2.2 hj
         obtain ⟨wb,hwb,hbb,hzb,hsb⟩:=box1 wr (.cells #[.int .i64 s,.int .i64 g,.int .i64 (kn : Int),.int .i64 a0,.int .i64 a1,.int .i64 a2,.int .i64 a3,.int .i64 a4,.int .i64 a5,.int .i64 a6,.int .i64 a7] 51)
         have hw3b:=hbw.trans (hbb.mono hsz)
         have H7:=Lib.hid (fun V => digits_any htr.1 V)
         have H8:=Lib.hid (fun V => digits_any htr.2.1 V)
         unfold DigPost at H7 H8
         have hls:=itoa_small htr.1
         have hlg:=itoa_small htr.2.1
         simp only at H7 H8 hls hlg
         obtain ⟨x0,x1,x2,x3,x4,x5,x6,x7,x8,x9,x10,xl⟩:=cells11 hzb
         obtain ⟨Hc1,Hwb,Hsb,Hw3b,Htr,Hval,Hts,Hrx,Hvs,Hkn,HAB,Hzb,HAL⟩:=hid13 hc1 hwb hsb hw3b htr hval hts hrx hvs hkn hab hzb hal
         clear hc1 hwb hsb hw3b htr hval hts hrx hvs hkn hab hzb hal
         clear hc hbw hb0r hbb
         go_wp2_with (first | (refine wpList_load_flat rfl 51 (.tmp 61) rfl _ rfl (rwC ((s,g),((kn : Int),a0,a1,a2,a3,a4,a5,a6,a7))) _ Tryz.underlying51 rfl (sz_Row _) Hc1.out ?_) | (refine wpList_store_new rfl 51 (.tmp 10) (.tmp 62) rfl wr (ints [0,0,0,0,0,0,0,0,0,0,0]) (rwC ((s,g),((kn : Int),a0,a1,a2,a3,a4,a5,a6,a7))) 51 rfl rfl rfl (sz_Row _) (rwC_one _) ?_;rw [show (rwC ((s,g),((kn : Int),a0,a1,a2,a3,a4,a5,a6,a7))).toArray = #[.int .i64 s,.int .i64 g,.int .i64 (kn : Int),.int .i64 a0,.int .i64 a1,.int .i64 a2,.int .i64 a3,.int .i64 a4,.int .i64 a5,.int .i64 a6,.int .i64 a7] from rfl,Hwb.out]) | fail)
         clear x0 x1 x2 x3 x4 x5 x6 x7 x8 x9 x10
         have hn1 : ¬ 9223372036854775807 < 4 + (Lib.itoa s).length:=by omega
         have hn2 : ¬ 9223372036854775807 < (Lib.itoa s).length + 1 + 1 + 1 + 1 + 1:=by omega
         have hn3 : ¬ 9223372036854775807 < (Lib.itoa s).length + 1 + 1 + 1 + 1 + 1 + (Lib.itoa g).length:=by omega
         have hn4 : ¬ 9223372036854775807 < acc.length + ((Lib.itoa s).length + ((Lib.itoa g).length + 1) + 1 + 1 + 1 + 1):=by have:=HAL.out;omega
         refine wp_planK [] 13 [] [some 63,some 64,some 65,some 66,some 67,some 68,some 69,some 70,some 71,some 72,some 73,some 74,some 75,some 6] [[],[],[1],[1,2],[1,2,3],[1,2,3,4],[1,2,3,4,5],[],[7],[7,8],[1,2,3,4,7,8,9],[1,2,3,4,5,6,7,8,9,10],[0,1,2,3,4,5,6,7,8,9,10,11],[0,1,2,3,4,5,6,7,8,9,10,11,12]] [0,1,2,3,4,5,6,7,8,9,10,11,12] (fun Lf σ V => Below wb.heap.size wb V) mixed rfl (by kernel_rfl) (by decide) (by decide) (by decide) below_drew rfl ?_
         iterate 13 apply Exists.intro
         refine ⟨rfl,?_,?_⟩
         ·simp only [tS,List.take_zero,AllFrom.cons_eq,AllFrom.nil_eq,OpGoalK]
          refine ⟨?_,?_,?_,?_,?_,?_,?_,?_,?_,?_,?_,?_,?_,trivial⟩
          all_goals (intro L' σ V h1 h2 h3 hI hp;have HA1:=Lib.hid h1;have HA2:=Lib.hid h2;have HA3:=Lib.hid h3;clear h1 h2 h3;(try simp only [gZ,gS,preK_cons,preK_nil] at hp);(try simp only [List.mem_cons,List.not_mem_nil,or_false,eq_self,Nat.reduceEqDiff,Nat.reduceAdd,Nat.zero_add,false_or,true_or,true_and,and_true] at hp);(first | (have hq : True:=hp;clear hq hp) | skip);have HI:=Lib.hid hI;clear hI)
          all_goals (
           have hzV:=(Mod.ofBelow HI.out).keep Hzb.out (by simp)
           have o0:=blk_cell hzV 0
           have o1:=blk_cell hzV 1
           have o2:=blk_cell hzV 2
           have o3:=blk_cell hzV 3
           have o4:=blk_cell hzV 4
           have o5:=blk_cell hzV 5
           have o6:=blk_cell hzV 6
           have o7:=blk_cell hzV 7
           have o8:=blk_cell hzV 8
           have o9:=blk_cell hzV 9
           have o10:=blk_cell hzV 10
           simp only [eA,eZ,eS] at o0 o1 o2 o3 o4 o5 o6 o7 o8 o9 o10
           have ol:=blk_lt hzV
           clear hzV)
          iterate 4 · (go_simp;exact ⟨.inr rfl,HI.out⟩)
          ·go_simp
           refine (H7.out V).mono ?_
           rintro e V' ⟨rfl,hb⟩
           exact ⟨_,rfl,.inr rfl,HI.out.trans (hb.mono HI.out.size)⟩
          iterate 5 · (go_simp;exact ⟨.inr rfl,HI.out⟩)
          ·go_simp
           refine (H8.out V).mono ?_
           rintro e V' ⟨rfl,hb⟩
           exact ⟨_,rfl,.inr rfl,HI.out.trans (hb.mono HI.out.size)⟩
          iterate 2 · (go_simp;exact ⟨.inr rfl,HI.out⟩)
         ·intro L' σ wc h1 hI hp
          have hbc:=hI
          clear h1 hI
          simp only [preK_cons,preK_nil,gZ,gS] at hp;simp only [List.mem_cons,List.not_mem_nil,or_false,eq_self,Nat.reduceEqDiff,false_or,true_or,true_and,and_true] at hp
          simp only [dS,List.drop_zero]
          go_simp
          clear hp
          have H9:=Lib.hid (rkindsKn_any kn Hkn.out wc)
          have hzc:=(Mod.ofBelow hbc).keep Hzb.out (by simp)
          have hw3c:=Hw3b.out.trans (hbc.mono Hw3b.out.size)
          obtain ⟨x0,x1,x2,x3,x4,x5,x6,x7,x8,x9,x10,xl⟩:=cells11 hzc
          obtain ⟨Hbc,Hzc,Hw3c⟩:=hid3 hbc hzc hw3c
          clear hbc hzc hw3c
          clear hn1 hn2 hn3 hn4 hls hlg H7 H8
          go_wp2_with fail
          refine ⟨rfl,?_⟩
          go_wp2_with fail
          clear x0 x1 x2 x3 x4 x5 x6 x7 x8 x9 x10
          refine H9.out.mono ?_
          rintro e wf ⟨vk,rfl,hvk,hbf⟩
          obtain ⟨Ak,ck,rfl,hck,hLk⟩:=row_lies hvk
          have hnk:=natKinds_len kn 8
          have hklt : ∀ k ∈ natKinds kn 8,k < 8:=fun k hk => natKinds_lt hk
          have hrx2 : rowX ((s,g),((kn : Int),a0,a1,a2,a3,a4,a5,a6,a7)) = (wRow ++ nums [s,g]) ++ (natKinds kn 8).flatMap (fun k => 32 :: pairX ((kn : Int),a0,a1,a2,a3,a4,a5,a6,a7) k):=rfl
          rw [List.length_map] at hvk hck
          simp only [List.length_map]
          have hw3f:=Hw3c.out.trans (hbf.mono Hw3c.out.size)
          have hzbf:=(Mod.ofBelow hbf).keep Hzc.out (by simp)
          generalize natKinds kn 8 = ks at *
          generalize hb8 : wr.heap.size = b8 at *
          have hrh : (wRow ++ nums [s,g]).length ≤ 47:=by
           have:=nums_len (l:=[s,g]) (fun n hn => by simp at hn;rcases hn with rfl | rfl;exact smallI_in Htr.out.1;exact smallI_in Htr.out.2.1)
           rw [List.length_append];simp only [wRow,List.length_cons,List.length_nil] at *;omega
          obtain ⟨Hw3f,Hzbf,Hnk,Hklt,Hrx2,HLk,Hrh⟩:=hid7 hw3f hzbf hnk hklt hrx2 hLk hrh
          clear hw3f hzbf hnk hklt hrx2 hLk hrh
          clear hb8 hvk hbf Hbc Hzc Hw3c
          go_wp2_with fail
          go_loopw [6,81] (fun u i V => ∃ j : Nat,j ≤ ks.length ∧ i = .int .i64 j ∧ u = .string ⟨((acc ++ (wRow ++ nums [s,g])) ++ (ks.take j).flatMap (fun k => 32 :: pairX ((kn : Int),a0,a1,a2,a3,a4,a5,a6,a7) k)).toArray⟩ ∧ Below wf.heap.size wf V) (fun u i _ => ks.length - (Go.RowKit.intOf i).toNat)
          case atStart => exact ⟨0,by omega,rfl,by simp [wRow,nums],Below.refl _ _⟩
          case round =>
           obtain ⟨j,hj,rfl,rfl,hbj⟩:=hrel
           by_cases hlt2 : j < ks.length
           ·obtain ⟨ak,rfl,hak,hkc⟩:=(HLk.out.below hbj).int (k:=j) (by rw [List.length_map];exact hlt2)
            rw [List.getElem_map] at hkc
            have hk8:=Hklt.out _ (List.getElem_mem hlt2)
            have hts2 : (ks.take (j + 1)).flatMap (fun k => 32 :: pairX ((kn : Int),a0,a1,a2,a3,a4,a5,a6,a7) k) = (ks.take j).flatMap (fun k => 32 :: pairX ((kn : Int),a0,a1,a2,a3,a4,a5,a6,a7) k) ++ 32 :: pairX ((kn : Int),a0,a1,a2,a3,a4,a5,a6,a7) ks[j]:=by rw [take_succ_get ks j hlt2,List.flatMap_append];simp
            have hjl : ((acc ++ (wRow ++ nums [s,g])) ++ (ks.take j).flatMap (fun k => 32 :: pairX ((kn : Int),a0,a1,a2,a3,a4,a5,a6,a7) k)).length ≤ 60000:=by
             have h0:=pairs_len Hval.out (ks.take j) (fun k hk => Hklt.out k (List.mem_of_mem_take hk))
             rw [List.length_take] at h0
             have:=HAL.out;have:=Hrh.out;have:=Hnk.out
             rw [List.length_append,List.length_append];omega
            generalize ks[j] = kk at *
            have hvs:=Hval.out kk hk8
            have hzV:=(Mod.ofBelow hbj).keep Hzbf.out (by simp)
            have hcell : ∀ V,Below wr.heap.size wr V → V.cell? ⟨b8,3 + kk,none⟩ = some (.int .i64 (valK kk ((kn : Int),a0,a1,a2,a3,a4,a5,a6,a7))):=fun V hV => by
             have h1:=(Mod.ofBelow hV).keep hzV (by simp)
             rw [blk_cell h1 (3 + kk)]
             show (rwC ((s,g),((kn : Int),a0,a1,a2,a3,a4,a5,a6,a7))).toArray[3 + kk]? = _
             rw [List.getElem?_toArray]
             exact valK_lt kk hk8 ((s,g),((kn : Int),a0,a1,a2,a3,a4,a5,a6,a7))
            have hpx : 32 :: pairX ((kn : Int),a0,a1,a2,a3,a4,a5,a6,a7) kk = 32 :: (Lib.itoa (kk : Int) ++ 61 :: Lib.itoa (valK kk ((kn : Int),a0,a1,a2,a3,a4,a5,a6,a7))):=rfl
            have hks : SmallI (kk : Int):=by unfold SmallI;omega
            have H10:=Lib.hid (fun V => digits_any hks V)
            have H11:=Lib.hid (fun V => digits_any hvs V)
            unfold DigPost at H10 H11
            have hil:=itoa_small hks
            have hvl:=itoa_small hvs
            generalize valK kk ((kn : Int),a0,a1,a2,a3,a4,a5,a6,a7) = vv at *
            generalize hac2 : (acc ++ (wRow ++ nums [s,g])) ++ (ks.take j).flatMap (fun k => 32 :: pairX ((kn : Int),a0,a1,a2,a3,a4,a5,a6,a7) k) = acc2 at *
            have hn1 : ¬ 9223372036854775807 < 1 + (Lib.itoa (kk : Int)).length:=by omega
            have hn2 : ¬ 9223372036854775807 < (Lib.itoa (kk : Int)).length + 1 + 1:=by omega
            have hn3 : ¬ 9223372036854775807 < (Lib.itoa (kk : Int)).length + 1 + 1 + (Lib.itoa vv).length:=by omega
            have hn4 : ¬ 9223372036854775807 < acc2.length + ((Lib.itoa (kk : Int)).length + ((Lib.itoa vv).length + 1) + 1):=by omega
            have hki2 : (j : Int) < (ks.length : Int):=by omega
            have hki3 : (kk : Int) < 8:=by omega
            obtain ⟨Hbj,HzV,Hts2,Hcell,Hpx,Hil,Hvl,Hjl,Hvs,Hks,Hac2⟩:=hid11 hbj hzV hts2 hcell hpx hil hvl hjl hvs hks hac2
            clear hbj hzV hts2 hcell hpx hil hvl hjl hvs hks hac2
            go_wp2_with fail
            refine wp_planK [] 13 [1,5] [some 85,some 86,some 87,some 88,some 89,some 90,some 91,some 92,some 93,some 94,some 95,some 96,some 97,some 6] [[],[],[1],[1,2],[1,2,3],[],[],[6],[5,6,7],[5,6,7,8],[1,2,5,6,7,8,9],[1,2,3,4,5,6,7,8,9,10],[0,1,2,3,4,5,6,7,8,9,10,11],[0,1,2,3,4,5,6,7,8,9,10,11,12]] [0,1,2,3,4,5,6,7,8,9,10,11,12] (fun Lf σ V => Below wr.heap.size wr V) mixed rfl (by kernel_rfl) (by decide) (by decide) (by decide) below_drew rfl ?_
            iterate 13 apply Exists.intro
            refine ⟨rfl,?_,?_⟩
            ·simp only [tS,List.take_zero,AllFrom.cons_eq,AllFrom.nil_eq,OpGoalK]
             refine ⟨?_,?_,?_,?_,?_,?_,?_,?_,?_,?_,?_,?_,?_,trivial⟩
             all_goals (intro L' σ V h1 h2 h3 hI hp;have HA1:=Lib.hid h1;have HA2:=Lib.hid h2;have HA3:=Lib.hid h3;clear h1 h2 h3;(try simp only [gZ,gS,preK_cons,preK_nil] at hp);(try simp only [List.mem_cons,List.not_mem_nil,or_false,eq_self,Nat.reduceEqDiff,Nat.reduceAdd,Nat.zero_add,false_or,true_or,true_and,and_true] at hp);(first | (have hq : True:=hp;clear hq hp) | skip);have HI:=Lib.hid hI;clear hI)
             all_goals (have hcv:=Hcell.out V HI.out)
             iterate 2 · (go_simp;exact ⟨.inr rfl,HI.out⟩)
             ·go_simp
              refine (H10.out V).mono ?_
              rintro e V' ⟨rfl,hb⟩
              exact ⟨_,rfl,.inr rfl,HI.out.trans (hb.mono HI.out.size)⟩
             iterate 7 · (go_simp;exact ⟨.inr rfl,HI.out⟩)
             ·go_simp
              refine (H11.out V).mono ?_
              rintro e V' ⟨rfl,hb⟩
              exact ⟨_,rfl,.inr rfl,HI.out.trans (hb.mono HI.out.size)⟩
             iterate 2 · (go_simp;exact ⟨.inr rfl,HI.out⟩)
            ·intro L' σ wg h1 hI hp
             have hbg:=hI
             clear h1 hI
             simp only [preK_cons,preK_nil,gZ,gS] at hp;simp only [List.mem_cons,List.not_mem_nil,or_false,eq_self,Nat.reduceEqDiff,false_or,true_or,true_and,and_true] at hp
             have hbg2:=Hbj.out.trans (hbg.mono Hbj.out.size)
             obtain ⟨Hbg,Hbg2⟩:=hid2 hbg hbg2
             clear hbg hbg2
             simp only [dS,List.drop_zero]
             go_simp
             clear hp
             have hks8:=Hnk.out
             go_wp2
             refine ⟨rfl,?_⟩
             go_wp2
             go_roundw
             case rel => exact ⟨j + 1,by omega,by go_num,by rw [Hts2.out,Hpx.out,← List.append_assoc,Hac2.out],Hbg2.out⟩
             case measure => simp [Go.RowKit.intOf];omega
           ·obtain rfl : j = ks.length:=by omega
            rw [List.take_length,List.append_assoc,← Hrx2.out]
            have hrxl : (rowX ((s,g),((kn : Int),a0,a1,a2,a3,a4,a5,a6,a7))).length ≤ 500:=by have:=Hrx.out;unfold lnX at this;rw [List.length_append] at this;omega
            have hac3 : (acc ++ rowX ((s,g),((kn : Int),a0,a1,a2,a3,a4,a5,a6,a7))).length ≤ 60000:=by have:=HAL.out;rw [List.length_append];omega
            have hrel3 : acc ++ rowX ((s,g),((kn : Int),a0,a1,a2,a3,a4,a5,a6,a7)) ++ [10] = acc ++ lnX (rowX ((s,g),((kn : Int),a0,a1,a2,a3,a4,a5,a6,a7))):=by unfold lnX;simp
            generalize acc ++ rowX ((s,g),((kn : Int),a0,a1,a2,a3,a4,a5,a6,a7)) = acc3 at *
            have hn5 : ¬ 9223372036854775807 < acc3.length + 1:=by omega
            have hw3z:=Hw3f.out.trans (hbj.mono Hw3f.out.size)
            obtain ⟨Hbj,Hrxl,Hac3,Hrel3,Hw3z⟩:=hid5 hbj hrxl hac3 hrel3 hw3z
            clear hbj hrxl hac3 hrel3 hw3z
            go_wp2
            go_roundw
            case rel => exact ⟨k + 1,by omega,by go_num,by rw [Hts.out,← List.append_assoc,Hacc.out,← Hrel3.out],Hw3z.out⟩
            case measure => simp [Go.RowKit.intOf];omega
        ·obtain rfl : k = rows.length:=by omega
         rw [List.take_length] at hal ⊢
         have hzr:=(Mod.ofBelow hbw).keep Hz3.out (by simp)
         obtain ⟨o0,o1,o2,ol⟩:=cells3 hzr
         generalize hacc : lnX (gensX gs) ++ rows.flatMap (fun r => lnX (rowX r)) = acc at *
         obtain ⟨Hbw,HAL,Hzr,Hacc,Hb0r,Hrl⟩:=hid6 hbw hal hzr hacc hb0r hrl
         clear hbw hal hzr hacc hb0r hrl
         go_wp2_with fail
         go_loopw [6,105] (fun u i V => ∃ j : Nat,j ≤ bs.length ∧ i = .int .i64 j ∧ u = .string ⟨(acc ++ (bs.take j).flatMap (fun b => lnX (bondX b))).toArray⟩ ∧ Below w3.heap.size w3 V) (fun u i _ => bs.length - (Go.RowKit.intOf i).toNat)
         case atStart => exact ⟨0,by omega,rfl,by simp,Hbw.out⟩
         case round =>
          obtain ⟨j,hj,rfl,rfl,hbwj⟩:=hrel
          clear o0 o1 o2 ol
          have hszj:=hbwj.size
          have hb0j:=Hb03.out.trans (hbwj.mono Hb03.out.size)
          by_cases hlt2 : j < bs.length
          ·obtain ⟨ab,ao,rfl,hab,hc⟩:=(HLA.out.2.2.below hb0j).rec_at bdC_len (by omega) hlt2
           have hc1 : ∀ i u,(bdC bs[j])[i]? = some u → wr.cell? ((⟨ab,ao + j * 4,none⟩ : Addr).add i) = some u:=fun i u hu => by
            have:=hc i u hu
            rw [Addr.add_mid];exact this
           have htb:=Htok.out.b _ (List.getElem_mem hlt2)
           have hts : (bs.take (j + 1)).flatMap (fun b => lnX (bondX b)) = (bs.take j).flatMap (fun b => lnX (bondX b)) ++ lnX (bondX bs[j]):=by rw [take_succ_get bs j hlt2,List.flatMap_append];simp
           have hjl : (acc ++ (bs.take j).flatMap (fun b => lnX (bondX b))).length ≤ 100000:=by
            have h0:=bonds_len Htok.out (l:=bs.take j) (fun r hr => List.mem_of_mem_take hr)
            rw [List.length_take] at h0
            have:=HAL.out
            rw [List.length_append];omega
           have hki : (j : Int) < (bs.length : Int):=by omega
           generalize bs[j] = x at *
           obtain ⟨⟨s,g⟩,⟨t,u⟩⟩:=x
           obtain ⟨wb,hwb,hbb,hzb,hsb⟩:=box1 wr (.cells #[.int .i64 s,.int .i64 g,.int .i64 t,.int .i64 u] 55)
           have hw3b:=hbwj.trans (hbb.mono hszj)
           have H7:=Lib.hid (fun V => digits_any htb.1 V)
           have H8:=Lib.hid (fun V => digits_any htb.2.1 V)
           have H9:=Lib.hid (fun V => digits_any htb.2.2.1 V)
           have H10:=Lib.hid (fun V => digits_any htb.2.2.2 V)
           unfold DigPost at H7 H8 H9 H10
           have hla:=itoa_small htb.1
           have hlb:=itoa_small htb.2.1
           have hlc:=itoa_small htb.2.2.1
           have hld:=itoa_small htb.2.2.2
           simp only at H7 H8 H9 H10 hla hlb hlc hld
           have hbx2 : lnX (bondX ((s,g),(t,u))) = 98 :: 111 :: 110 :: 100 :: 32 :: (Lib.itoa s ++ 32 :: (Lib.itoa g ++ 32 :: (Lib.itoa t ++ 32 :: (Lib.itoa u ++ [10])))):=by unfold lnX bondX nums wBond;simp
           generalize hac2 : acc ++ (bs.take j).flatMap (fun b => lnX (bondX b)) = acc2 at *
           obtain ⟨x0,x1,x2,x3,xl⟩:=cells4 hzb
           obtain ⟨Hc1,Hwb,Hsb,Hw3b,Htb,Hts,HAB,Hjl,Hzb,Hbx2,Hac2⟩:=hid11 hc1 hwb hsb hw3b htb hts hab hjl hzb hbx2 hac2
           clear hc1 hwb hsb hw3b htb hts hab hjl hzb hbx2 hac2
           clear hc hbwj hb0j hbb
           go_wp2_with (first | (refine wpList_load_flat rfl 55 (.tmp 107) rfl _ rfl (bdC ((s,g),(t,u))) _ Tryz.underlying55 rfl (sz_Bond _) Hc1.out ?_) | (refine wpList_store_new rfl 55 (.tmp 14) (.tmp 108) rfl wr (ints [0,0,0,0]) (bdC ((s,g),(t,u))) 55 rfl rfl rfl (sz_Bond _) (bdC_one _) ?_;rw [show (bdC ((s,g),(t,u))).toArray = #[.int .i64 s,.int .i64 g,.int .i64 t,.int .i64 u] from rfl,Hwb.out]) | fail)
           clear x0 x1 x2 x3
           generalize hsA : (Lib.itoa s) = sa at *
           generalize hsB : (Lib.itoa g) = sb at *
           generalize hsC : (Lib.itoa t) = sc at *
           generalize hsD : (Lib.itoa u) = sd at *
           clear hsA hsB hsC hsD
           have hm1 : ¬ 9223372036854775807 < 5 + sa.length:=by omega
           have hm2 : ¬ 9223372036854775807 < sa.length + 1 + 1 + 1 + 1 + 1 + 1:=by omega
           have hm3 : ¬ 9223372036854775807 < sa.length + 1 + 1 + 1 + 1 + 1 + 1 + sb.length:=by omega
           have hm4 : ¬ 9223372036854775807 < sa.length + (sb.length + 1) + 1 + 1 + 1 + 1 + 1 + 1:=by omega
           have hm5 : ¬ 9223372036854775807 < sa.length + (sb.length + 1 + 1) + 1 + 1 + 1 + 1 + 1 + sc.length:=by omega
           have hm6 : ¬ 9223372036854775807 < sa.length + (sb.length + (sc.length + 1) + 1) + 1 + 1 + 1 + 1 + 1 + 1:=by omega
           have hm7 : ¬ 9223372036854775807 < sa.length + (sb.length + (sc.length + 1 + 1) + 1) + 1 + 1 + 1 + 1 + 1 + sd.length:=by omega
           have hm8 : ¬ 9223372036854775807 < sa.length + (sb.length + (sc.length + (sd.length + 1) + 1) + 1) + 1 + 1 + 1 + 1 + 1 + 1:=by omega
           have hm9 : ¬ 9223372036854775807 < acc2.length + (sa.length + (sb.length + (sc.length + (sd.length + 1 + 1) + 1) + 1) + 1 + 1 + 1 + 1 + 1):=by have:=Hjl.out;omega
           refine wp_planK [] 26 [] [some 109,some 110,some 111,some 112,some 113,some 114,some 115,some 116,some 117,some 118,some 119,some 120,some 121,some 122,some 123,some 124,some 125,some 126,some 127,some 128,some 129,some 130,some 131,some 132,some 133,some 134,some 6] [[],[],[1],[1,2],[1,2,3],[1,2,3,4],[1,2,3,4,5],[],[7],[7,8],[1,2,3,4,7,8,9],[1,2,3,4,5,6,7,8,9,10],[1,2,3,4,5,6,7,8,9,10,11],[],[13],[13,14],[1,2,3,4,7,8,9,10,13,14,15],[1,2,3,4,5,6,7,8,9,10,11,12,13,14,15,16],[1,2,3,4,5,6,7,8,9,10,11,12,13,14,15,16,17],[],[19],[19,20],[1,2,3,4,7,8,9,10,13,14,15,16,19,20,21],[1,2,3,4,5,6,7,8,9,10,11,12,13,14,15,16,17,18,19,20,21,22],[1,2,3,4,5,6,7,8,9,10,11,12,13,14,15,16,17,18,19,20,21,22,23],[0,1,2,3,4,5,6,7,8,9,10,11,12,13,14,15,16,17,18,19,20,21,22,23,24],[0,1,2,3,4,5,6,7,8,9,10,11,12,13,14,15,16,17,18,19,20,21,22,23,24,25]] [0,1,2,3,4,5,6,7,8,9,10,11,12,13,14,15,16,17,18,19,20,21,22,23,24,25] (fun Lf σ V => Below wb.heap.size wb V) mixed rfl (by kernel_rfl) (by decide) (by decide) (by decide) below_drew rfl ?_
           iterate 26 apply Exists.intro
           refine ⟨rfl,?_,?_⟩
           ·simp only [tS,List.take_zero,AllFrom.cons_eq,AllFrom.nil_eq,OpGoalK]
            refine ⟨?_,?_,?_,?_,?_,?_,?_,?_,?_,?_,?_,?_,?_,?_,?_,?_,?_,?_,?_,?_,?_,?_,?_,?_,?_,?_,trivial⟩
            all_goals (intro L' σ V h1 h2 h3 hI hp;have HA1:=Lib.hid h1;have HA2:=Lib.hid h2;have HA3:=Lib.hid h3;clear h1 h2 h3;(try simp only [gZ,gS,preK_cons,preK_nil] at hp);(try simp only [List.mem_cons,List.not_mem_nil,or_false,eq_self,Nat.reduceEqDiff,Nat.reduceAdd,Nat.zero_add,false_or,true_or,true_and,and_true] at hp);(first | (have hq : True:=hp;clear hq hp) | skip);have HI:=Lib.hid hI;clear hI)
            all_goals (
             have hzV:=(Mod.ofBelow HI.out).keep Hzb.out (by simp)
             have o0:=blk_cell hzV 0
             have o1:=blk_cell hzV 1
             have o2:=blk_cell hzV 2
             have o3:=blk_cell hzV 3
             simp only [eA,eZ,eS] at o0 o1 o2 o3
             have ol:=blk_lt hzV
             clear hzV)
            iterate 4 · (go_simp;exact ⟨.inr rfl,HI.out⟩)
            ·go_simp
             refine (H7.out V).mono ?_
             rintro e V' ⟨rfl,hb⟩
             exact ⟨_,rfl,.inr rfl,HI.out.trans (hb.mono HI.out.size)⟩
            iterate 5 · (go_simp;exact ⟨.inr rfl,HI.out⟩)
            ·go_simp
             refine (H8.out V).mono ?_
             rintro e V' ⟨rfl,hb⟩
             exact ⟨_,rfl,.inr rfl,HI.out.trans (hb.mono HI.out.size)⟩
            iterate 5 · (go_simp;exact ⟨.inr rfl,HI.out⟩)
            ·go_simp
             refine (H9.out V).mono ?_
             rintro e V' ⟨rfl,hb⟩
             exact ⟨_,rfl,.inr rfl,HI.out.trans (hb.mono HI.out.size)⟩
            iterate 5 · (go_simp;exact ⟨.inr rfl,HI.out⟩)
            ·go_simp
             refine (H10.out V).mono ?_
             rintro e V' ⟨rfl,hb⟩
             exact ⟨_,rfl,.inr rfl,HI.out.trans (hb.mono HI.out.size)⟩
            iterate 3 · (go_simp;exact ⟨.inr rfl,HI.out⟩)
           ·intro L' σ wg h1 hI hp
            have hbg:=hI
            clear h1 hI
            simp only [preK_cons,preK_nil,gZ,gS] at hp;simp only [List.mem_cons,List.not_mem_nil,or_false,eq_self,Nat.reduceEqDiff,false_or,true_or,true_and,and_true] at hp
            have hbg2:=Hw3b.out.trans (hbg.mono Hw3b.out.size)
            obtain ⟨Hbg,Hbg2⟩:=hid2 hbg hbg2
            clear hbg hbg2
            simp only [dS,List.drop_zero]
            go_simp
            clear hp hm1 hm2 hm3 hm4 hm5 hm6 hm7 hm8 hm9
            go_wp2
            refine ⟨rfl,?_⟩
            go_wp2
            go_roundw
            case rel => exact ⟨j + 1,by omega,by go_num,by rw [Hts.out,← List.append_assoc,Hac2.out,Hbx2.out],Hbg2.out⟩
            case measure => simp [Go.RowKit.intOf];omega
          ·obtain rfl : j = bs.length:=by omega
           rw [List.take_length]
           obtain ⟨Hbwj,Hb0j⟩:=hid2 hbwj hb0j
           clear hbwj hb0j
           have hcat : acc ++ bs.flatMap (fun b => lnX (bondX b)) = printX gs rows bs:=by rw [printX_cat,Hacc.out]
           rw [hcat]
           clear hcat
           go_wp2
           go_ret2
           exact ⟨by rw [HP0.out.1,HP0.out.2];rfl,Hb0j.out⟩
end Go.Proofs.YtoheblfpjinmnaaGreatDoor
