import Derived.Test.YtfdillpofciicaaGreatDoorTopSavedJ11
import Derived.Test.YtfdillpofciicaaGreatDoorRows
set_option linter.unusedVariables false
set_option linter.unusedSimpArgs false
/- A part of the proof that TopSaved returns true. -/
namespace Go.Proofs.YtfdillpofciicaaGreatDoor
open Go Go.RowKit
attribute [local go_sem] AllFrom.cons_eq AllFrom.nil_eq putF_nil putF_cons wantedL_none wantedL_some OpGoalT OpGoalS OpGoalP OpGoalV YieldsR preF_nil preF_cons
set_option maxRecDepth 20000 in
set_option maxHeartbeats 4000000 in
theorem do_yes1 (Kn rn sn : Nat) (hK : Kn < 256) (hr : rn < 256) (hs : sn < 256) (a0 a1 a2 a3 a4 a5 a6 a7 n t a x : Int) (hx : -1000000 ≤ x ∧ x ≤ 1000000) (hv : ∀ v ∈ [a0,a1,a2,a3,a4,a5,a6,a7],-1000000000 ≤ v ∧ v ≤ 1000000000) (w : World) (hm : matchesB (Kn : Int) n t a = true) :
  Calls Tryz.prog 60 #[.agg #[.int .i64 (Kn : Int),.int .i64 a0,.int .i64 a1,.int .i64 a2,.int .i64 a3,.int .i64 a4,.int .i64 a5,.int .i64 a6,.int .i64 a7],.agg #[.int .i64 n,.int .i64 t,.int .i64 a,.int .i64 (rn : Int),.int .i64 (sn : Int),.int .i64 1,.int .i64 x]] w fun e w' => e = .returned (btV (Kn : Int) ((pRun 1 (natKinds (Kn &&& sn) 8) (natKinds (Kn &&& sn) 8).length).map (srcV [a0,a1,a2,a3,a4,a5,a6,a7] x (sumL [a0,a1,a2,a3,a4,a5,a6,a7] x (natKinds (Kn &&& rn) 8))))) ∧ Below w.heap.size w w':=by
 have h1:=fun w => matches_any (Kn : Int) n t a w
 rw [hm] at h1
 have H1:=Lib.hid h1;have HL1:=Lib.hid (listNat_any Kn sn hK hs);have HL2:=Lib.hid (listNat_any Kn rn hK hr)
 obtain ⟨Hx,Hv⟩:=hid2 hx hv
 clear h1 hm hx hv
 go_enter Tryz.func60,Tryz.ntmps60
 go_wp2_with fail
 refine (H1.out _).mono ?_
 rintro e w1 ⟨rfl,hb1⟩
 obtain ⟨k2,k3,k4,hbb,hz2⟩:=do_boxes hb1
 obtain ⟨HB,K2,K3,K4⟩:=hid4 hbb k2 k3 k4
 have c0:=blk_cell k2 0
 have c1:=blk_cell k2 1
 have c2:=blk_cell k2 2
 have c3:=blk_cell k2 3
 have c4:=blk_cell k2 4
 have c5:=blk_cell k2 5
 have c6:=blk_cell k2 6
 have c7:=blk_cell k2 7
 have c8:=blk_cell k2 8
 have s0:=blk_cell k3 0
 have s1:=blk_cell k3 1
 have s2:=blk_cell k3 2
 have s3:=blk_cell k3 3
 have s4:=blk_cell k3 4
 have s5:=blk_cell k3 5
 have s6:=blk_cell k3 6
 simp only [eA,eZ,eS] at c0 c1 c2 c3 c4 c5 c6 c7 c8 s0 s1 s2 s3 s4 s5 s6
 have l2:=blk_lt k2
 have l3:=blk_lt k3
 have l4:=blk_lt k4
 clear k2 k3 k4 hbb hb1 H1
 go_wp2_with fail
 refine (HL1.out _).mono ?_
 rintro e w2 ⟨v5,rfl,hrow5,hb2⟩
 have k2:=(Mod.ofBelow hb2).keep K2.out (by simp)
 have k3:=(Mod.ofBelow hb2).keep K3.out (by simp)
 have k4:=(Mod.ofBelow hb2).keep K4.out (by simp)
 have HB2:=Lib.hid (HB.out.trans (hb2.mono (by omega)));have K22:=Lib.hid k2;have K23:=Lib.hid k3;have K24:=Lib.hid k4;have HR5:=Lib.hid hrow5
 have hsz2:=hb2.size
 clear c0 c1 c2 c3 c4 c5 c6 c7 c8 s0 s1 s2 s3 s4 s5 s6 l2 l3 l4 hb2 hrow5 HB K2 K3 K4 HL1
 have c0:=blk_cell k2 0
 have c1:=blk_cell k2 1
 have c2:=blk_cell k2 2
 have c3:=blk_cell k2 3
 have c4:=blk_cell k2 4
 have c5:=blk_cell k2 5
 have c6:=blk_cell k2 6
 have c7:=blk_cell k2 7
 have c8:=blk_cell k2 8
 have s0:=blk_cell k3 0
 have s1:=blk_cell k3 1
 have s2:=blk_cell k3 2
 have s3:=blk_cell k3 3
 have s4:=blk_cell k3 4
 have s5:=blk_cell k3 5
 have s6:=blk_cell k3 6
 simp only [eA,eZ,eS] at c0 c1 c2 c3 c4 c5 c6 c7 c8 s0 s1 s2 s3 s4 s5 s6
 have l2:=blk_lt k2
 have l3:=blk_lt k3
 have l4:=blk_lt k4
 clear k2 k3 k4
 obtain ⟨A5,q5,rfl,hq5,-⟩:=row_slice HR5.out
 go_wp2_with fail
 refine (HL2.out _).mono ?_
 rintro e w3 ⟨v6,rfl,hrow6,hb3⟩
 have k2:=(Mod.ofBelow hb3).keep (blk_alloc K22.out _) (by simp)
 have k3:=(Mod.ofBelow hb3).keep (blk_alloc K23.out _) (by simp)
 have k4:=(Mod.ofBelow hb3).keep (blk_alloc K24.out _) (by simp)
 have k6:=(Mod.ofBelow hb3).keep (heap_alloc_new w2 _) (by simp)
 have hrow5:=row_mod (HR5.out.alloc _) (Mod.ofBelow hb3) (by simp)
 have HA5:=Lib.hid (row_lt HR5.out)
 have hsz3:=hb3.size
 simp only [World.size_alloc] at hsz3
 have HB3:=Lib.hid ((HB2.out.alloc HB2.out.size _).trans (hb3.mono (by simp;omega)))
 obtain ⟨K32,K33,K34,K36,HR35,HR36⟩:=hid6 k2 k3 k4 k6 hrow5 hrow6
 clear c0 c1 c2 c3 c4 c5 c6 c7 c8 s0 s1 s2 s3 s4 s5 s6 l2 l3 l4 hb3 hrow5 hrow6 HB2 K22 K23 K24 HL2 HR5
 have c0:=blk_cell k2 0
 have c1:=blk_cell k2 1
 have c2:=blk_cell k2 2
 have c3:=blk_cell k2 3
 have c4:=blk_cell k2 4
 have c5:=blk_cell k2 5
 have c6:=blk_cell k2 6
 have c7:=blk_cell k2 7
 have c8:=blk_cell k2 8
 have s0:=blk_cell k3 0
 have s1:=blk_cell k3 1
 have s2:=blk_cell k3 2
 have s3:=blk_cell k3 3
 have s4:=blk_cell k3 4
 have s5:=blk_cell k3 5
 have s6:=blk_cell k3 6
 simp only [eA,eZ,eS] at c0 c1 c2 c3 c4 c5 c6 c7 c8 s0 s1 s2 s3 s4 s5 s6
 have l2:=blk_lt k2
 have l3:=blk_lt k3
 have l4:=blk_lt k4
 have l6:=blk_lt k6
 clear k2 k3 k4 k6
 obtain ⟨A6,q6,rfl,hq6,-⟩:=row_slice HR36.out
 have hN6:=natKinds_len (Kn &&& rn) 8
 have hlt6 : ∀ k (h : k < (natKinds (Kn &&& rn) 8).length),(natKinds (Kn &&& rn) 8)[k] < 8:=fun k h => natKinds_lt (List.getElem_mem h)
 generalize hNe : natKinds (Kn &&& rn) 8 = N at *
 obtain ⟨Hlt6,HNe⟩:=hid2 hlt6 hNe
 clear hlt6 hNe
 have hBt : RepBt w3 w.heap.size (Kn : Int) [a0,a1,a2,a3,a4,a5,a6,a7]:=K32.out
 have HBt:=Lib.hid hBt
 clear hBt
 obtain ⟨vs,hvs⟩ : ∃ vs,vs = [a0,a1,a2,a3,a4,a5,a6,a7]:=⟨_,rfl⟩
 have hvl : vs.length = 8:=by rw [hvs];rfl
 rw [← hvs] at HBt Hv
 obtain ⟨Hvs,Hvl⟩:=hid2 hvs hvl
 clear hvs hvl
 go_wp2
 go_loop [7,35] (fun sm i => ∃ k : Nat,k ≤ N.length ∧ i = .int .i64 k ∧ sm = .int .i64 (sumL vs x (N.take k))) (fun _ i => N.length - (Go.RowKit.intOf i).toNat)
 case atStart => exact ⟨0,by omega,rfl,rfl⟩
 case round =>
  obtain ⟨k,hk,rfl,rfl⟩:=hrel
  by_cases hlt : k < N.length
  ·obtain ⟨g6,rfl,hg6,ck⟩:=row_kind HR36.out hlt
   have hm8:=Hlt6.out k hlt
   have hss : sumL vs x (N.take (k + 1)) = sumL vs x (N.take k) + vs.getD N[k] 0:=by rw [take_succ_get N k hlt,sumL_snoc]
   have hb0:=sumL_bound (x:=x) Hv.out (N.take k)
   have hb1:=sumL_bound (x:=x) Hv.out (N.take (k + 1))
   rw [List.length_take] at hb0 hb1
   have hxx:=Hx.out
   rw [hss] at hb1
   generalize N[k] = m at *
   have hmv : m < vs.length:=by rw [Hvl.out];exact hm8
   have cm:=HBt.out.v hmv
   have hgd : vs.getD m 0 = vs[m]:=by rw [List.getD_eq_getElem?_getD,List.getElem?_eq_getElem hmv];rfl
   rw [hgd] at hss hb1
   generalize vs[m] = y at *
   generalize sumL vs x (N.take k) = S at *
   have hw:=wrapBig (S + y) (by omega) (by omega)
   have hmi : (m : Int) < 8:=by omega
   have Hss:=Lib.hid hss
   clear hss hb0 hb1 hxx hgd hmv
   go_wp2
   go_round
   case rel => exact ⟨k + 1,by omega,by go_num,by rw [Hss.out]⟩
   case measure => simp [Go.RowKit.intOf];omega
  ·obtain rfl : k = N.length:=by omega
   rw [List.take_length]
   have hS:=sumL_bound (x:=x) Hv.out N
   have hM:=natKinds_len (Kn &&& sn) 8
   have hltM : ∀ k (h : k < (natKinds (Kn &&& sn) 8).length),(natKinds (Kn &&& sn) 8)[k] < 8:=fun k h => natKinds_lt (List.getElem_mem h)
   generalize hMe : natKinds (Kn &&& sn) 8 = M at *
   have h0 : vs = (pRun 1 M 0).map (srcV vs x (sumL vs x N)):=by
    rw [Hvs.out]
    show _ = base8.map _
    simp [base8,srcV]
   have h6 : RepBt w3 w2.heap.size (Kn : Int) ((pRun 1 M 0).map (srcV vs x (sumL vs x N))):=by rw [← h0,Hvs.out];exact K36.out
   obtain ⟨HMe,H6,HltM⟩:=hid3 hMe h6 hltM
   clear hMe h0 h6 hltM hlt
   go_wp2
   trace_state
   go_loopw [48] (fun i wr => ∃ k : Nat,k ≤ M.length ∧ i = .int .i64 k ∧ RepBt wr w2.heap.size (Kn : Int) ((pRun 1 M k).map (srcV vs x (sumL vs x N))) ∧ Mod [w2.heap.size] w3 wr) (fun i _ => M.length - (Go.RowKit.intOf i).toNat)
   case atStart => exact ⟨0,by omega,rfl,H6.out,Mod.refl _ _⟩
   case round =>
    obtain ⟨k,hk,rfl,hrep,hmod⟩:=hrel
    have hsz:=hmod.size
    by_cases hlt : k < M.length
    ·have hr5:=row_mod HR35.out hmod (fun k hk => by have:=HA5.out k hk;simp;omega)
     obtain ⟨g5,rfl,hg5,ck⟩:=row_kind hr5 hlt
     have hm8:=HltM.out k hlt
     have hBt:=HBt.out.mod hmod (by simp;omega)
     have k33:=hmod.keep K33.out (by simp;omega)
     have s5:=blk_cell k33 5
     have s6:=blk_cell k33 6
     simp only [eA,eZ,eS] at s5 s6
     have hps:=pRun_succ 1 M k
     have hpl:=pRun_len 1 M k
     have hgd : M.getD k 0 = M[k]:=by rw [List.getD_eq_getElem?_getD,List.getElem?_eq_getElem hlt];rfl
     unfold pStep at hps
     rw [hgd] at hps
     generalize M[k] = m at *
     have hmv : m < vs.length:=by rw [Hvl.out];exact hm8
     have cm:=hBt.v hmv
     have hvd : vs.getD m 0 = vs[m]:=by rw [List.getD_eq_getElem?_getD,List.getElem?_eq_getElem hmv];rfl
     have om:=hrep.v (k:=m) (by rw [List.length_map,hpl];exact hm8)
     have fm:=hrep.free (1 + m)
     have lo:=hrep.lt
     have lb:=hBt.lt
     have ls:=blk_lt k33
     have hset:=hrep.set m
     generalize ((pRun 1 M k).map (srcV vs x (sumL vs x N)))[m]'(by rw [List.length_map,hpl];exact hm8) = old at om
     have hmi : (m : Int) < 8:=by omega
     have hy:=Hv.out vs[m] (List.getElem_mem hmv)
     have hxx:=Hx.out
     generalize vs[m] = y at *
     have hw:=wrapBig (y + x) (by omega) (by omega)
     clear hy hxx
     have Hps:=Lib.hid hps;have HSet:=Lib.hid hset;have Hvd:=Lib.hid hvd;have HS:=Lib.hid hS;have HX:=Lib.hid Hx.out
     clear hps hset hvd hrep hBt k33 hr5 hgd hpl hS c0 c1 c2 c3 c4 c5 c6 c7 c8 s0 s1 s2 s3 s4
     have Hn:=Lib.hid (show pRun 1 M (k + 1) = (pRun 1 M k).set m (m + 8) by rw [Hps.out];simp)
     generalize sumL vs x N = S at *
     have hfin : RepBt (wr.setCell ⟨w2.heap.size,1 + m,none⟩ (.int .i64 (cutI (y + x)))) w2.heap.size (Kn : Int) ((pRun 1 M (k + 1)).map (srcV vs x S)):=by
      rw [Hn.out,List.map_set,show srcV vs x S (m + 8) = cutI (y + x) by rw [← Hvd.out];unfold srcV;rw [if_neg (by omega),if_pos (by omega),Nat.add_sub_cancel]]
      exact HSet.out (cutI (y + x))
     have HFin:=Lib.hid hfin
     clear hfin
     go_wp2
     refine wp_planS [some 57,some 58,some 59,some 60,some 61,some 62,some 63,some 64,some 65,some 66,some 67,none] [[],[],[],[1,2],[1,2,3],[],[5],[1,2,3,4,5,6],[1,2,3,4,5,6,7],[],[0,1,2,3,4,5,6,7,8,9],[0,1,2,3,4,5,6,7,8,9,10]] [0,1,2,3,4,5,6,7,8,9,10,11] 12 11 mixed rfl (by kernel_rfl) (by decide) rfl ?_ (by decide)
     iterate 13 apply Exists.intro
     refine ⟨rfl,?_,?_⟩
     ·simp only [AllFrom.cons_eq,AllFrom.nil_eq,OpGoalS]
      refine ⟨?_,?_,?_,?_,?_,?_,?_,?_,?_,?_,?_,?_,trivial⟩
      all_goals (intro σ hp;(try simp only [gZ,gS,mC,mN,preF_cons,preF_nil,isV,and_true] at hp);(first | (have hq : True:=hp;clear hq hp) | skip))
      all_goals (first | (go_simp;exact ⟨rfl,rfl⟩) | ((go_simp;refine (cut_any _ _).mono ?_;rintro e w4 ⟨rfl,rfl⟩;exact ⟨_,rfl,rfl,rfl⟩)))
     intro σ hp
     simp only [gZ,gS,mC,mN,preF_cons,preF_nil,isV,and_true] at hp
     go_simp
     clear hp
     go_wp2
     go_roundw
     case rel => exact ⟨k + 1,by omega,by go_num,HFin.out,(hmod.setCell (.inl (by simp)) _).drew⟩
     case measure => simp [Go.RowKit.intOf];omega
    ·obtain rfl : k = M.length:=by omega
     have hpl:=pRun_len 1 M M.length
     have hk4:=hmod.keep K34.out (by simp;omega)
     have hbel:=HB3.out.trans (hmod.toBelow (B:=w.heap.size) (by simp;omega) (by omega))
     have hRes : ((pRun 1 (natKinds (Kn &&& sn) 8) (natKinds (Kn &&& sn) 8).length).map (srcV [a0,a1,a2,a3,a4,a5,a6,a7] x (sumL [a0,a1,a2,a3,a4,a5,a6,a7] x (natKinds (Kn &&& rn) 8))) = (pRun 1 M M.length).map (srcV vs x (sumL vs x N))):=by rw [HMe.out,HNe.out,Hvs.out]
     obtain ⟨rs,hrs⟩ : ∃ rs,rs = (pRun 1 M M.length).map (srcV vs x (sumL vs x N)):=⟨_,rfl⟩
     have hrl : rs.length = 8:=by rw [hrs,List.length_map,hpl]
     rw [← hrs] at hrep hRes
     obtain ⟨HRep,HK4,HBel⟩:=hid3 hrep hk4 hbel
     clear hrs hpl hrep hk4 hbel hmod hS
     have HRes:=Lib.hid hRes
     clear hRes
     match rs,hrl with
     | [b0,b1,b2,b3,b4,b5,b6,b7],_ =>
      have hr0 : wr.heap[w2.heap.size]? = some (.cells #[.int .i64 (Kn : Int),.int .i64 b0,.int .i64 b1,.int .i64 b2,.int .i64 b3,.int .i64 b4,.int .i64 b5,.int .i64 b6,.int .i64 b7] 45 (0,0)):=HRep.out
      have c0:=blk_cell hr0 0
      have c1:=blk_cell hr0 1
      have c2:=blk_cell hr0 2
      have c3:=blk_cell hr0 3
      have c4:=blk_cell hr0 4
      have c5:=blk_cell hr0 5
      have c6:=blk_cell hr0 6
      have c7:=blk_cell hr0 7
      have c8:=blk_cell hr0 8
      have z0:=blk_cell HK4.out 0
      have z1:=blk_cell HK4.out 1
      have z2:=blk_cell HK4.out 2
      have z3:=blk_cell HK4.out 3
      have z4:=blk_cell HK4.out 4
      have z5:=blk_cell HK4.out 5
      have z6:=blk_cell HK4.out 6
      have z7:=blk_cell HK4.out 7
      have z8:=blk_cell HK4.out 8
      simp only [eA,eZ,eS] at c0 z0 c1 z1 c2 z2 c3 z3 c4 z4 c5 z5 c6 z6 c7 z7 c8 z8
      have f0:=blk_free HK4.out 0
      have f1:=blk_free HK4.out 1
      have f2:=blk_free HK4.out 2
      have f3:=blk_free HK4.out 3
      have f4:=blk_free HK4.out 4
      have f5:=blk_free HK4.out 5
      have f6:=blk_free HK4.out 6
      have f7:=blk_free HK4.out 7
      have f8:=blk_free HK4.out 8
      have lr:=blk_lt hr0
      have l4:=blk_lt HK4.out
      clear hr0
      go_wp2
      refine bodyPost_ret (v:=.agg #[.int .i64 (Kn : Int),.int .i64 b0,.int .i64 b1,.int .i64 b2,.int .i64 b3,.int .i64 b4,.int .i64 b5,.int .i64 b6,.int .i64 b7]) (by unfold results;try go_simp) rfl ?_
      refine ⟨by rw [HRes.out];rfl,?_⟩
      refine Mod.toBelow (F:=[]) ?_ (by simp) (Nat.le_refl _)
      repeat (refine Mod.setCell ?_ (.inr (by simp only;omega)) _)
      exact Mod.ofBelow HBel.out
set_option maxRecDepth 20000 in
set_option maxHeartbeats 4000000 in
theorem do_yes3 (Kn rn sn : Nat) (hK : Kn < 256) (hr : rn < 256) (hs : sn < 256) (a0 a1 a2 a3 a4 a5 a6 a7 n t a x : Int) (hx : -1000000 ≤ x ∧ x ≤ 1000000) (hv : ∀ v ∈ [a0,a1,a2,a3,a4,a5,a6,a7],-1000000000 ≤ v ∧ v ≤ 1000000000) (w : World) (hm : matchesB (Kn : Int) n t a = true) :
  Calls Tryz.prog 60 #[.agg #[.int .i64 (Kn : Int),.int .i64 a0,.int .i64 a1,.int .i64 a2,.int .i64 a3,.int .i64 a4,.int .i64 a5,.int .i64 a6,.int .i64 a7],.agg #[.int .i64 n,.int .i64 t,.int .i64 a,.int .i64 (rn : Int),.int .i64 (sn : Int),.int .i64 3,.int .i64 x]] w fun e w' => e = .returned (btV (Kn : Int) ((pRun 3 (natKinds (Kn &&& sn) 8) (natKinds (Kn &&& sn) 8).length).map (srcV [a0,a1,a2,a3,a4,a5,a6,a7] x (sumL [a0,a1,a2,a3,a4,a5,a6,a7] x (natKinds (Kn &&& rn) 8))))) ∧ Below w.heap.size w w':=by
 have h1:=fun w => matches_any (Kn : Int) n t a w
 rw [hm] at h1
 have H1:=Lib.hid h1;have HL1:=Lib.hid (listNat_any Kn sn hK hs);have HL2:=Lib.hid (listNat_any Kn rn hK hr)
 obtain ⟨Hx,Hv⟩:=hid2 hx hv
 clear h1 hm hx hv
 go_enter Tryz.func60,Tryz.ntmps60
 go_wp2_with fail
 refine (H1.out _).mono ?_
 rintro e w1 ⟨rfl,hb1⟩
 obtain ⟨k2,k3,k4,hbb,hz2⟩:=do_boxes hb1
 obtain ⟨HB,K2,K3,K4⟩:=hid4 hbb k2 k3 k4
 have c0:=blk_cell k2 0
 have c1:=blk_cell k2 1
 have c2:=blk_cell k2 2
 have c3:=blk_cell k2 3
 have c4:=blk_cell k2 4
 have c5:=blk_cell k2 5
 have c6:=blk_cell k2 6
 have c7:=blk_cell k2 7
 have c8:=blk_cell k2 8
 have s0:=blk_cell k3 0
 have s1:=blk_cell k3 1
 have s2:=blk_cell k3 2
 have s3:=blk_cell k3 3
 have s4:=blk_cell k3 4
 have s5:=blk_cell k3 5
 have s6:=blk_cell k3 6
 simp only [eA,eZ,eS] at c0 c1 c2 c3 c4 c5 c6 c7 c8 s0 s1 s2 s3 s4 s5 s6
 have l2:=blk_lt k2
 have l3:=blk_lt k3
 have l4:=blk_lt k4
 clear k2 k3 k4 hbb hb1 H1
 go_wp2_with fail
 refine (HL1.out _).mono ?_
 rintro e w2 ⟨v5,rfl,hrow5,hb2⟩
 have k2:=(Mod.ofBelow hb2).keep K2.out (by simp)
 have k3:=(Mod.ofBelow hb2).keep K3.out (by simp)
 have k4:=(Mod.ofBelow hb2).keep K4.out (by simp)
 have HB2:=Lib.hid (HB.out.trans (hb2.mono (by omega)));have K22:=Lib.hid k2;have K23:=Lib.hid k3;have K24:=Lib.hid k4;have HR5:=Lib.hid hrow5
 have hsz2:=hb2.size
 clear c0 c1 c2 c3 c4 c5 c6 c7 c8 s0 s1 s2 s3 s4 s5 s6 l2 l3 l4 hb2 hrow5 HB K2 K3 K4 HL1
 have c0:=blk_cell k2 0
 have c1:=blk_cell k2 1
 have c2:=blk_cell k2 2
 have c3:=blk_cell k2 3
 have c4:=blk_cell k2 4
 have c5:=blk_cell k2 5
 have c6:=blk_cell k2 6
 have c7:=blk_cell k2 7
 have c8:=blk_cell k2 8
 have s0:=blk_cell k3 0
 have s1:=blk_cell k3 1
 have s2:=blk_cell k3 2
 have s3:=blk_cell k3 3
 have s4:=blk_cell k3 4
 have s5:=blk_cell k3 5
 have s6:=blk_cell k3 6
 simp only [eA,eZ,eS] at c0 c1 c2 c3 c4 c5 c6 c7 c8 s0 s1 s2 s3 s4 s5 s6
 have l2:=blk_lt k2
 have l3:=blk_lt k3
 have l4:=blk_lt k4
 clear k2 k3 k4
 obtain ⟨A5,q5,rfl,hq5,-⟩:=row_slice HR5.out
 go_wp2_with fail
 refine (HL2.out _).mono ?_
 rintro e w3 ⟨v6,rfl,hrow6,hb3⟩
 have k2:=(Mod.ofBelow hb3).keep (blk_alloc K22.out _) (by simp)
 have k3:=(Mod.ofBelow hb3).keep (blk_alloc K23.out _) (by simp)
 have k4:=(Mod.ofBelow hb3).keep (blk_alloc K24.out _) (by simp)
 have k6:=(Mod.ofBelow hb3).keep (heap_alloc_new w2 _) (by simp)
 have hrow5:=row_mod (HR5.out.alloc _) (Mod.ofBelow hb3) (by simp)
 have HA5:=Lib.hid (row_lt HR5.out)
 have hsz3:=hb3.size
 simp only [World.size_alloc] at hsz3
 have HB3:=Lib.hid ((HB2.out.alloc HB2.out.size _).trans (hb3.mono (by simp;omega)))
 obtain ⟨K32,K33,K34,K36,HR35,HR36⟩:=hid6 k2 k3 k4 k6 hrow5 hrow6
 clear c0 c1 c2 c3 c4 c5 c6 c7 c8 s0 s1 s2 s3 s4 s5 s6 l2 l3 l4 hb3 hrow5 hrow6 HB2 K22 K23 K24 HL2 HR5
 have c0:=blk_cell k2 0
 have c1:=blk_cell k2 1
 have c2:=blk_cell k2 2
 have c3:=blk_cell k2 3
 have c4:=blk_cell k2 4
 have c5:=blk_cell k2 5
 have c6:=blk_cell k2 6
 have c7:=blk_cell k2 7
 have c8:=blk_cell k2 8
 have s0:=blk_cell k3 0
 have s1:=blk_cell k3 1
 have s2:=blk_cell k3 2
 have s3:=blk_cell k3 3
 have s4:=blk_cell k3 4
 have s5:=blk_cell k3 5
 have s6:=blk_cell k3 6
 simp only [eA,eZ,eS] at c0 c1 c2 c3 c4 c5 c6 c7 c8 s0 s1 s2 s3 s4 s5 s6
 have l2:=blk_lt k2
 have l3:=blk_lt k3
 have l4:=blk_lt k4
 have l6:=blk_lt k6
 clear k2 k3 k4 k6
 obtain ⟨A6,q6,rfl,hq6,-⟩:=row_slice HR36.out
 have hN6:=natKinds_len (Kn &&& rn) 8
 have hlt6 : ∀ k (h : k < (natKinds (Kn &&& rn) 8).length),(natKinds (Kn &&& rn) 8)[k] < 8:=fun k h => natKinds_lt (List.getElem_mem h)
 generalize hNe : natKinds (Kn &&& rn) 8 = N at *
 obtain ⟨Hlt6,HNe⟩:=hid2 hlt6 hNe
 clear hlt6 hNe
 have hBt : RepBt w3 w.heap.size (Kn : Int) [a0,a1,a2,a3,a4,a5,a6,a7]:=K32.out
 have HBt:=Lib.hid hBt
 clear hBt
 obtain ⟨vs,hvs⟩ : ∃ vs,vs = [a0,a1,a2,a3,a4,a5,a6,a7]:=⟨_,rfl⟩
 have hvl : vs.length = 8:=by rw [hvs];rfl
 rw [← hvs] at HBt Hv
 obtain ⟨Hvs,Hvl⟩:=hid2 hvs hvl
 clear hvs hvl
 go_wp2
 go_loop [7,35] (fun sm i => ∃ k : Nat,k ≤ N.length ∧ i = .int .i64 k ∧ sm = .int .i64 (sumL vs x (N.take k))) (fun _ i => N.length - (Go.RowKit.intOf i).toNat)
 case atStart => exact ⟨0,by omega,rfl,rfl⟩
 case round =>
  obtain ⟨k,hk,rfl,rfl⟩:=hrel
  by_cases hlt : k < N.length
  ·obtain ⟨g6,rfl,hg6,ck⟩:=row_kind HR36.out hlt
   have hm8:=Hlt6.out k hlt
   have hss : sumL vs x (N.take (k + 1)) = sumL vs x (N.take k) + vs.getD N[k] 0:=by rw [take_succ_get N k hlt,sumL_snoc]
   have hb0:=sumL_bound (x:=x) Hv.out (N.take k)
   have hb1:=sumL_bound (x:=x) Hv.out (N.take (k + 1))
   rw [List.length_take] at hb0 hb1
   have hxx:=Hx.out
   rw [hss] at hb1
   generalize N[k] = m at *
   have hmv : m < vs.length:=by rw [Hvl.out];exact hm8
   have cm:=HBt.out.v hmv
   have hgd : vs.getD m 0 = vs[m]:=by rw [List.getD_eq_getElem?_getD,List.getElem?_eq_getElem hmv];rfl
   rw [hgd] at hss hb1
   generalize vs[m] = y at *
   generalize sumL vs x (N.take k) = S at *
   have hw:=wrapBig (S + y) (by omega) (by omega)
   have hmi : (m : Int) < 8:=by omega
   have Hss:=Lib.hid hss
   clear hss hb0 hb1 hxx hgd hmv
   go_wp2
   go_round
   case rel => exact ⟨k + 1,by omega,by go_num,by rw [Hss.out]⟩
   case measure => simp [Go.RowKit.intOf];omega
  ·obtain rfl : k = N.length:=by omega
   rw [List.take_length]
   have hS:=sumL_bound (x:=x) Hv.out N
   have hM:=natKinds_len (Kn &&& sn) 8
   have hltM : ∀ k (h : k < (natKinds (Kn &&& sn) 8).length),(natKinds (Kn &&& sn) 8)[k] < 8:=fun k h => natKinds_lt (List.getElem_mem h)
   generalize hMe : natKinds (Kn &&& sn) 8 = M at *
   have h0 : vs = (pRun 3 M 0).map (srcV vs x (sumL vs x N)):=by
    rw [Hvs.out]
    show _ = base8.map _
    simp [base8,srcV]
   have h6 : RepBt w3 w2.heap.size (Kn : Int) ((pRun 3 M 0).map (srcV vs x (sumL vs x N))):=by rw [← h0,Hvs.out];exact K36.out
   obtain ⟨HMe,H6,HltM⟩:=hid3 hMe h6 hltM
   clear hMe h0 h6 hltM hlt
   go_wp2
   trace_state
   go_loopw [48] (fun i wr => ∃ k : Nat,k ≤ M.length ∧ i = .int .i64 k ∧ RepBt wr w2.heap.size (Kn : Int) ((pRun 3 M k).map (srcV vs x (sumL vs x N))) ∧ Mod [w2.heap.size] w3 wr) (fun i _ => M.length - (Go.RowKit.intOf i).toNat)
   case atStart => exact ⟨0,by omega,rfl,H6.out,Mod.refl _ _⟩
   case round =>
    obtain ⟨k,hk,rfl,hrep,hmod⟩:=hrel
    have hsz:=hmod.size
    by_cases hlt : k < M.length
    ·have hr5:=row_mod HR35.out hmod (fun k hk => by have:=HA5.out k hk;simp;omega)
     obtain ⟨g5,rfl,hg5,ck⟩:=row_kind hr5 hlt
     have hm8:=HltM.out k hlt
     have hBt:=HBt.out.mod hmod (by simp;omega)
     have k33:=hmod.keep K33.out (by simp;omega)
     have s5:=blk_cell k33 5
     have s6:=blk_cell k33 6
     simp only [eA,eZ,eS] at s5 s6
     have hjlt : (k + 1) % M.length < M.length:=Nat.mod_lt _ (by omega)
     obtain ⟨g5',hg5',-,cj⟩:=row_kind hr5 hjlt
     cases hg5'
     have hj8:=HltM.out _ hjlt
     have hjd : M.getD ((k + 1) % M.length) 0 = M[(k + 1) % M.length]:=by rw [List.getD_eq_getElem?_getD,List.getElem?_eq_getElem hjlt];rfl
     have hrem : ((k : Int) + 1) % (M.length : Int) = (((k + 1) % M.length : Nat) : Int):=by first | (push_cast;rfl) | simp
     have hps:=pRun_succ 3 M k
     have hpl:=pRun_len 3 M k
     have hgd : M.getD k 0 = M[k]:=by rw [List.getD_eq_getElem?_getD,List.getElem?_eq_getElem hlt];rfl
     unfold pStep at hps
     rw [hgd,hjd] at hps
     generalize M[k] = m at *
     generalize M[(k + 1) % M.length] = q at *
     generalize (k + 1) % M.length = j at *
     have hqv : q < vs.length:=by rw [Hvl.out];exact hj8
     have cq:=hBt.v hqv
     have hqd : vs.getD q 0 = vs[q]:=by rw [List.getD_eq_getElem?_getD,List.getElem?_eq_getElem hqv];rfl
     have hqi : (q : Int) < 8:=by omega
     have hsq : srcV vs x (sumL vs x N) q = vs[q]:=by rw [← hqd];unfold srcV;rw [if_pos hj8]
     generalize vs[q] = y at *
     have Hsq:=Lib.hid hsq
     clear hsq hqd hjd
     have hmv : m < vs.length:=by rw [Hvl.out];exact hm8
     have cm:=hBt.v hmv
     have hvd : vs.getD m 0 = vs[m]:=by rw [List.getD_eq_getElem?_getD,List.getElem?_eq_getElem hmv];rfl
     have om:=hrep.v (k:=m) (by rw [List.length_map,hpl];exact hm8)
     have fm:=hrep.free (1 + m)
     have lo:=hrep.lt
     have lb:=hBt.lt
     have ls:=blk_lt k33
     have hset:=hrep.set m
     generalize ((pRun 3 M k).map (srcV vs x (sumL vs x N)))[m]'(by rw [List.length_map,hpl];exact hm8) = old at om
     have hmi : (m : Int) < 8:=by omega
     have Hps:=Lib.hid hps;have HSet:=Lib.hid hset;have Hvd:=Lib.hid hvd;have HS:=Lib.hid hS;have HX:=Lib.hid Hx.out
     clear hps hset hvd hrep hBt k33 hr5 hgd hpl hS c0 c1 c2 c3 c4 c5 c6 c7 c8 s0 s1 s2 s3 s4
     have Hn:=Lib.hid (show pRun 3 M (k + 1) = (pRun 3 M k).set m q by rw [Hps.out];simp)
     generalize sumL vs x N = S at *
     have hfin : RepBt (wr.setCell ⟨w2.heap.size,1 + m,none⟩ (.int .i64 y)) w2.heap.size (Kn : Int) ((pRun 3 M (k + 1)).map (srcV vs x S)):=by
      rw [Hn.out,List.map_set,Hsq.out]
      exact HSet.out y
     have HFin:=Lib.hid hfin
     clear hfin
     go_wp2
     go_roundw
     case rel => exact ⟨k + 1,by omega,by go_num,HFin.out,hmod.setCell (.inl (by simp)) _⟩
     case measure => simp [Go.RowKit.intOf];omega
    ·obtain rfl : k = M.length:=by omega
     have hpl:=pRun_len 3 M M.length
     have hk4:=hmod.keep K34.out (by simp;omega)
     have hbel:=HB3.out.trans (hmod.toBelow (B:=w.heap.size) (by simp;omega) (by omega))
     have hRes : ((pRun 3 (natKinds (Kn &&& sn) 8) (natKinds (Kn &&& sn) 8).length).map (srcV [a0,a1,a2,a3,a4,a5,a6,a7] x (sumL [a0,a1,a2,a3,a4,a5,a6,a7] x (natKinds (Kn &&& rn) 8))) = (pRun 3 M M.length).map (srcV vs x (sumL vs x N))):=by rw [HMe.out,HNe.out,Hvs.out]
     obtain ⟨rs,hrs⟩ : ∃ rs,rs = (pRun 3 M M.length).map (srcV vs x (sumL vs x N)):=⟨_,rfl⟩
     have hrl : rs.length = 8:=by rw [hrs,List.length_map,hpl]
     rw [← hrs] at hrep hRes
     obtain ⟨HRep,HK4,HBel⟩:=hid3 hrep hk4 hbel
     clear hrs hpl hrep hk4 hbel hmod hS
     have HRes:=Lib.hid hRes
     clear hRes
     match rs,hrl with
     | [b0,b1,b2,b3,b4,b5,b6,b7],_ =>
      have hr0 : wr.heap[w2.heap.size]? = some (.cells #[.int .i64 (Kn : Int),.int .i64 b0,.int .i64 b1,.int .i64 b2,.int .i64 b3,.int .i64 b4,.int .i64 b5,.int .i64 b6,.int .i64 b7] 45 (0,0)):=HRep.out
      have c0:=blk_cell hr0 0
      have c1:=blk_cell hr0 1
      have c2:=blk_cell hr0 2
      have c3:=blk_cell hr0 3
      have c4:=blk_cell hr0 4
      have c5:=blk_cell hr0 5
      have c6:=blk_cell hr0 6
      have c7:=blk_cell hr0 7
      have c8:=blk_cell hr0 8
      have z0:=blk_cell HK4.out 0
      have z1:=blk_cell HK4.out 1
      have z2:=blk_cell HK4.out 2
      have z3:=blk_cell HK4.out 3
      have z4:=blk_cell HK4.out 4
      have z5:=blk_cell HK4.out 5
      have z6:=blk_cell HK4.out 6
      have z7:=blk_cell HK4.out 7
      have z8:=blk_cell HK4.out 8
      simp only [eA,eZ,eS] at c0 z0 c1 z1 c2 z2 c3 z3 c4 z4 c5 z5 c6 z6 c7 z7 c8 z8
      have f0:=blk_free HK4.out 0
      have f1:=blk_free HK4.out 1
      have f2:=blk_free HK4.out 2
      have f3:=blk_free HK4.out 3
      have f4:=blk_free HK4.out 4
      have f5:=blk_free HK4.out 5
      have f6:=blk_free HK4.out 6
      have f7:=blk_free HK4.out 7
      have f8:=blk_free HK4.out 8
      have lr:=blk_lt hr0
      have l4:=blk_lt HK4.out
      clear hr0
      go_wp2
      refine bodyPost_ret (v:=.agg #[.int .i64 (Kn : Int),.int .i64 b0,.int .i64 b1,.int .i64 b2,.int .i64 b3,.int .i64 b4,.int .i64 b5,.int .i64 b6,.int .i64 b7]) (by unfold results;try go_simp) rfl ?_
      refine ⟨by rw [HRes.out];rfl,?_⟩
      refine Mod.toBelow (F:=[]) ?_ (by simp) (Nat.le_refl _)
      repeat (refine Mod.setCell ?_ (.inr (by simp only;omega)) _)
      exact Mod.ofBelow HBel.out



end Go.Proofs.YtfdillpofciicaaGreatDoor
namespace Go.Proofs.YtfdillpofciicaaGreatDoor
open Go.ChangeShapes Go.WideShapes Go.ChangeAt Go.RowKit
attribute [local go_sem] AllFrom.cons_eq AllFrom.nil_eq putL_nil putL_cons wantedL_none wantedL_some OpGoalM YieldsJ
theorem sysE_ok {n t a r s d x : Int} (h : sysE n t a r s d x = 0) : isSetB r = true ∧ isSetB s = true ∧ (d = 1 ∨ d = 2 ∨ d = 3) ∧ -1000000 ≤ x ∧ x ≤ 1000000:=by
 unfold sysE at h
 repeat' split at h
 all_goals first | (exfalso;omega) | skip
 all_goals simp_all
 all_goals omega
theorem beastE_ok {K : Int} {vs : List Int} (h : beastE K vs = 0) : isSetB K = true ∧ ∀ v ∈ vs,-1000000000 ≤ v ∧ v ≤ 1000000000:=by
 unfold beastE at h
 split at h
 ·next hK =>
  refine ⟨hK,?_⟩
  have : ∀ (l : List Int) (k : Nat),beastGo K k l = 0 → ∀ v ∈ l,-1000000000 ≤ v ∧ v ≤ 1000000000:=by
   intro l
   induction l with
   | nil => intro k _ v hv;cases hv
   | cons y l ih =>
    intro k hk v hv
    unfold beastGo at hk
    split at hk
    ·cases hk
    ·split at hk
     ·cases hk
     ·rcases List.mem_cons.1 hv with rfl | hv
      ·omega
      ·exact ih _ hk v hv
  exact this vs 0 h
 ·cases h
end Go.Proofs.YtfdillpofciicaaGreatDoor
namespace Go.Proofs.YtfdillpofciicaaGreatDoor
open Go.RowKit
structure Sy where
 n : Int
 t : Int
 a : Int
 r : Int
 s : Int
 d : Int
 x : Int
def Sy.cells (p : Sy) : List Int:=[p.n,p.t,p.a,p.r,p.s,p.d,p.x]
theorem Sy.cells_len (p : Sy) : p.cells.length = 7:=rfl
theorem Sy.mk_cells (zs : List Int) (h : zs.length = 7) : ∃ p : Sy,p.cells = zs:=by
 match zs,h with
 | [n,t,a,r,s,d,x],_ => exact ⟨⟨n,t,a,r,s,d,x⟩,rfl⟩
def Sy.val (p : Sy) : Value:=.agg #[.int .i64 p.n,.int .i64 p.t,.int .i64 p.a,.int .i64 p.r,.int .i64 p.s,.int .i64 p.d,.int .i64 p.x]
def clashB (p q : Sy) : Bool:=bits .or .i64 (bits .and .i64 p.s (bits .or .i64 q.r q.s)) (bits .and .i64 q.s p.r) != 0
set_option maxHeartbeats 400000 in
theorem clash_any (p q : Sy) (w : World) :
  Calls Tryz.prog 105 #[p.val,q.val] w fun e w' => e = .returned (.bool (clashB p q)) ∧ Below w.heap.size w w':=by
 obtain ⟨n,t,a,r,s,d,x⟩:=p
 obtain ⟨n',t',a',r',s',d',x'⟩:=q
 go_enter Tryz.func105,Tryz.ntmps105
 simp only [Sy.val]
 go_wp2
 go_ret
 exact ⟨rfl,((Below.refl _ _).alloc (Nat.le_refl _) _).alloc (by simp) _⟩
def Sy.e (p : Sy) : Int:=sysE p.n p.t p.a p.r p.s p.d p.x
def firstE : List Sy → Int
 | [] => 0
 | p :: l => if p.e ≠ 0 then p.e else firstE l
theorem firstE_drop (l : List Sy) (k : Nat) (h : k < l.length) : firstE (l.drop k) = if l[k].e ≠ 0 then l[k].e else firstE (l.drop (k + 1)):=by
 rw [List.drop_eq_getElem_cons h,firstE]
def sysCells (l : List Sy) : List Value:=ints (l.flatMap Sy.cells)
def lvlTo (c : Nat → Bool) (x : Nat → Int) : Nat → Int
 | 0 => 0
 | k + 1 => if c k = true then max (lvlTo c x k) (x k + 1) else lvlTo c x k
def planTo (l : List Sy) : Nat → List Int
 | 0 => []
 | i + 1 => planTo l i ++ [lvlTo (fun k => match l[i]?,l[k]? with | some p,some q => clashB p q | _,_ => false) (fun k => (planTo l i).getD k 0) i]
def lvlAt (l : List Sy) (i k : Nat) : Int:=lvlTo (fun k => match l[i]?,l[k]? with | some p,some q => clashB p q | _,_ => false) (fun k => (planTo l i).getD k 0) k
theorem planTo_succ (l : List Sy) (i : Nat) : planTo l (i + 1) = planTo l i ++ [lvlAt l i i]:=rfl
theorem planTo_len (l : List Sy) : ∀ i,(planTo l i).length = i
 | 0 => rfl
 | i + 1 => by rw [planTo_succ,List.length_append,planTo_len l i];rfl
theorem lvlAt_zero (l : List Sy) (i : Nat) : lvlAt l i 0 = 0:=rfl
theorem lvlAt_succ (l : List Sy) (i k : Nat) (hi : i < l.length) (hk : k < l.length) :
  lvlAt l i (k + 1) = if clashB l[i] l[k] = true then max (lvlAt l i k) ((planTo l i).getD k 0 + 1) else lvlAt l i k:=by
 unfold lvlAt
 rw [lvlTo]
 simp only [List.getElem?_eq_getElem hi,List.getElem?_eq_getElem hk]
theorem lvl_bound (c : Nat → Bool) (x : Nat → Int) (b : Int) (hb : 0 ≤ b) (hx : ∀ j,0 ≤ x j ∧ x j + 1 ≤ b) : ∀ k,0 ≤ lvlTo c x k ∧ lvlTo c x k ≤ b
 | 0 => ⟨Int.le_refl _,hb⟩
 | k + 1 => by
  have h1:=lvl_bound c x b hb hx k
  have h2:=hx k
  rw [lvlTo]
  split
  ·omega
  ·exact h1
theorem getD_bound (L : List Int) (b : Int) (h : ∀ y ∈ L,0 ≤ y ∧ y ≤ b) (hb : 0 ≤ b) (k : Nat) : 0 ≤ L.getD k 0 ∧ L.getD k 0 ≤ b:=by
 rw [List.getD_eq_getElem?_getD]
 cases hk : L[k]? with
 | none => exact ⟨Int.le_refl _,hb⟩
 | some y => exact h y (List.mem_of_getElem? hk)
theorem planTo_bound (l : List Sy) : ∀ i,∀ y ∈ planTo l i,0 ≤ y ∧ y ≤ i
 | 0,y,h => by simp [planTo] at h
 | i + 1,y,h => by
  have ih:=planTo_bound l i
  rw [planTo_succ,List.mem_append] at h
  rcases h with h | h
  ·have:=ih y h;omega
  ·have : y = lvlAt l i i:=by simpa using h
   subst this
   have hb:=lvl_bound (fun k => match l[i]?,l[k]? with | some p,some q => clashB p q | _,_ => false) (fun k => (planTo l i).getD k 0) (i + 1) (by omega)
    (fun j => by have:=getD_bound (planTo l i) i ih (by omega) j;omega) i
   unfold lvlAt
   omega
theorem lvlAt_bound (l : List Sy) (i k : Nat) : 0 ≤ lvlAt l i k ∧ lvlAt l i k ≤ i + 1:=by
 have ih:=planTo_bound l i
 exact lvl_bound _ _ (i + 1) (by omega) (fun j => by have:=getD_bound (planTo l i) i ih (by omega) j;omega) k
def planE (l : List Sy) : Int:=if 20 < l.length then 2 else firstE l
def planL (l : List Sy) : List Int:=if planE l = 0 then planTo l l.length else []
def PlanPost (l : List Sy) (w : World) (e : Ending) (w' : World) : Prop :=
 ∃ v,e = .returned (.tuple #[v,.int .i64 (planE l)]) ∧ w'.ownsRow w.heap.size 3 1 v (planL l).length (ints (planL l)) ∧ Below w.heap.size w w'
theorem planPost_err {l : List Sy} {w w' : World} {q : Int} (hq : planE l = q) (hne : q ≠ 0) (hb : Below w.heap.size w w') :
  PlanPost l w (.returned (.tuple #[.slice none 0 0,.int .i64 q])) w':=by
 have : planL l = []:=by unfold planL;rw [if_neg (by rw [hq];exact hne)]
 exact ⟨.slice none 0 0,by rw [hq],by rw [this];exact ⟨rfl,.inl ⟨rfl,rfl⟩⟩,hb⟩
theorem sys_many (A : Option Addr) (c : Nat) (l : List Sy) (w : World) (hl : 20 < l.length) (hl2 : l.length ≤ 9223372036854775807) :
  Calls Tryz.prog 57 #[.slice A l.length c] w (PlanPost l w):=by
 have hp:=planPost_err (w:=w) (w':=w) (show planE l = 2 by unfold planE;rw [if_pos hl]) (by decide) (Below.refl _ _)
 have HP:=Lib.hid hp
 clear hp
 go_enter Tryz.func57,Tryz.ntmps57
 go_wp2
 go_ret2
 exact HP.out
set_option maxHeartbeats 1000000 in
theorem plan_bad (A : Option Addr) (c : Nat) (l : List Sy) (w : World) (hl : l.length ≤ 20) (hA : Lies w w.heap.size A (sysCells l)) (hbad : firstE l ≠ 0) :
  Calls Tryz.prog 57 #[.slice A l.length c] w (PlanPost l w):=by
 have hp:=fun w' (h : Below w.heap.size w w') => planPost_err (w:=w) (w':=w') (show planE l = firstE l by unfold planE;rw [if_neg (by omega)]) hbad h
 have HP:=Lib.hid hp
 have Hbad:=Lib.hid hbad
 clear hp hbad
 go_enter Tryz.func57,Tryz.ntmps57
 go_wp2
 go_loopw [16] (fun i wr => ∃ k : Nat,k ≤ l.length ∧ i = .int .i64 k ∧ firstE (l.drop k) = firstE l ∧ Below w.heap.size w wr) (fun i _ => l.length - (Go.RowKit.intOf i).toNat)
 case atStart => exact ⟨0,by omega,rfl,rfl,Below.refl _ _⟩
 case round =>
  obtain ⟨k,hk,rfl,hgo,hbel⟩:=hrel
  by_cases hlt : k < l.length
  ·obtain ⟨a,rfl,hb,hc⟩:=((hA.below hbel).mono hbel.size).elem Sy.cells_len (by omega) hlt
   have hst:=firstE_drop l k hlt
   generalize l[k] = p at *
   obtain ⟨n,t,s0,r,s,d,x⟩:=p
   have hck:=fun w => sysCheck_any n t s0 r s d x w
   have he : Sy.e ⟨n,t,s0,r,s,d,x⟩ = sysE n t s0 r s d x:=rfl
   rw [he,hgo] at hst
   clear he
   generalize sysE n t s0 r s d x = q at *
   have Hc:=Lib.hid hc
   have Hst:=Lib.hid hst
   have HA:=Lib.hid hA
   have Hgo:=Lib.hid hgo
   have Hck:=Lib.hid hck
   have hsz:=hbel.size
   clear hc hst hA hgo hck
   by_cases hq : q = 0
   ·subst hq
    go_wp2_with (first | (refine wpList_load_flat rfl 102 _ rfl _ rfl [.int .i64 n,.int .i64 t,.int .i64 s0,.int .i64 r,.int .i64 s,.int .i64 d,.int .i64 x] _ Tryz.underlying102 rfl (by kernel_rfl) Hc.out ?_) | (go_at_call 104;refine (Hck.out _).mono ?_;rintro e w1 ⟨rfl,hb1⟩))
    go_roundw
    case rel => exact ⟨k + 1,by omega,by go_num,by rw [Hst.out];simp,(hbel.alloc hsz _).trans (hb1.mono (by simp;omega))⟩
    case measure => simp [Go.RowKit.intOf];omega
   ·have hq' : (q != 0) = true:=by simpa using hq
    have Hq:=Lib.hid hq
    clear hq
    go_wp2_with (first | (refine wpList_load_flat rfl 102 _ rfl _ rfl [.int .i64 n,.int .i64 t,.int .i64 s0,.int .i64 r,.int .i64 s,.int .i64 d,.int .i64 x] _ Tryz.underlying102 rfl (by kernel_rfl) Hc.out ?_) | (go_at_call 104;refine (Hck.out _).mono ?_;rintro e w1 ⟨rfl,hb1⟩))
    go_ret2
    have hfin:=HP.out w1 ((hbel.alloc hsz _).trans (hb1.mono (by simp;omega)))
    rw [Hst.out,if_pos Hq.out] at hfin
    exact hfin
  ·exfalso
   have : firstE l = 0:=by rw [← hgo,List.drop_eq_nil_of_le (by omega)];rfl
   exact Hbad.out this
end Go.Proofs.YtfdillpofciicaaGreatDoor
