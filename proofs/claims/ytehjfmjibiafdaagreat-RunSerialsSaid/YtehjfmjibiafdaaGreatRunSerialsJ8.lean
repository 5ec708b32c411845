import Derived.Test.YtehjfmjibiafdaaGreatRunSerialsJ7
/- A part of the proof that RunSerials returns true. -/
namespace Go.Proofs.YtehjfmjibiafdaaGreat
open Go Go.RowKit
attribute [local go_sem] AllFrom.cons_eq AllFrom.nil_eq putF_nil putF_cons wantedL_none wantedL_some OpGoalT OpGoalS OpGoalP OpGoalV YieldsR preF_nil preF_cons
set_option maxRecDepth 20000 in
set_option maxHeartbeats 4000000 in
theorem do_yes1 (Kn rn sn : Nat) (hK : Kn < 256) (hr : rn < 256) (hs : sn < 256) (a0 a1 a2 a3 a4 a5 a6 a7 n t a x : Int) (hx : -1000000 ≤ x ∧ x ≤ 1000000) (hv : ∀ v ∈ [a0,a1,a2,a3,a4,a5,a6,a7],-1000000000 ≤ v ∧ v ≤ 1000000000) (w : World) (hm : matchesB (Kn : Int) n t a = true) :
  Calls Tryz.prog 72 #[.agg #[.int .i64 (Kn : Int),.int .i64 a0,.int .i64 a1,.int .i64 a2,.int .i64 a3,.int .i64 a4,.int .i64 a5,.int .i64 a6,.int .i64 a7],.agg #[.int .i64 n,.int .i64 t,.int .i64 a,.int .i64 (rn : Int),.int .i64 (sn : Int),.int .i64 1,.int .i64 x]] w fun e w' => e = .returned (btV (Kn : Int) ((pRun 1 (natKinds (Kn &&& sn) 8) (natKinds (Kn &&& sn) 8).length).map (srcV [a0,a1,a2,a3,a4,a5,a6,a7] x (sumL [a0,a1,a2,a3,a4,a5,a6,a7] x (natKinds (Kn &&& rn) 8))))) ∧ Below w.heap.size w w':=by
 have h1:=fun w => matches_any (Kn : Int) n t a w
 rw [hm] at h1
 have H1:=Lib.hid h1;have HL1:=Lib.hid (listNat_any Kn sn hK hs);have HL2:=Lib.hid (listNat_any Kn rn hK hr)
 obtain ⟨Hx,Hv⟩:=hid2 hx hv
 clear h1 hm hx hv
 go_enter Tryz.func72,Tryz.ntmps72
 go_wp2_with fail
 refine (H1.out _).mono ?_
 rintro e w1 ⟨rfl,hb1⟩
 obtain ⟨k2,k3,k4,hbb,hz2⟩:=do_boxes hb1
 obtain ⟨HB,K2,K3,K4⟩:=hid4 hbb k2 k3 k4
 have c0:=blk_cell k2 0
 have c1:=blk_cell k2 1
 have c2:=blk_cell k2 2
 have c3:=blk_cell k2 3
 have c4:=blk_cell k2 4
 have c5:=blk_cell k2 5
 have c6:=blk_cell k2 6
 have c7:=blk_cell k2 7
 have c8:=blk_cell k2 8
 have s0:=blk_cell k3 0
 have s1:=blk_cell k3 1
 have s2:=blk_cell k3 2
 have s3:=blk_cell k3 3
 have s4:=blk_cell k3 4
 have s5:=blk_cell k3 5
 have s6:=blk_cell k3 6
 simp only [eA,eZ,eS] at c0 c1 c2 c3 c4 c5 c6 c7 c8 s0 s1 s2 s3 s4 s5 s6
 have l2:=blk_lt k2
 have l3:=blk_lt k3
 have l4:=blk_lt k4
 clear k2 k3 k4 hbb hb1 H1
 go_wp2_with fail
 refine (HL1.out _).mono ?_
 rintro e w2 ⟨v5,rfl,hrow5,hb2⟩
 have k2:=(Mod.ofBelow hb2).keep K2.out (by simp)
 have k3:=(Mod.ofBelow hb2).keep K3.out (by simp)
 have k4:=(Mod.ofBelow hb2).keep K4.out (by simp)
 have HB2:=Lib.hid (HB.out.trans (hb2.mono (by omega)));have K22:=Lib.hid k2;have K23:=Lib.hid k3;have K24:=Lib.hid k4;have HR5:=Lib.hid hrow5
 have hsz2:=hb2.size
 clear c0 c1 c2 c3 c4 c5 c6 c7 c8 s0 s1 s2 s3 s4 s5 s6 l2 l3 l4 hb2 hrow5 HB K2 K3 K4 HL1
 have c0:=blk_cell k2 0
 have c1:=blk_cell k2 1
 have c2:=blk_cell k2 2
 have c3:=blk_cell k2 3
 have c4:=blk_cell k2 4
 have c5:=blk_cell k2 5
 have c6:=blk_cell k2 6
 have c7:=blk_cell k2 7
 have c8:=blk_cell k2 8
 have s0:=blk_cell k3 0
 have s1:=blk_cell k3 1
 have s2:=blk_cell k3 2
 have s3:=blk_cell k3 3
 have s4:=blk_cell k3 4
 have s5:=blk_cell k3 5
 have s6:=blk_cell k3 6
 simp only [eA,eZ,eS] at c0 c1 c2 c3 c4 c5 c6 c7 c8 s0 s1 s2 s3 s4 s5 s6
 have l2:=blk_lt k2
 have l3:=blk_lt k3
 have l4:=blk_lt k4
 clear k2 k3 k4
 obtain ⟨A5,q5,rfl,hq5,-⟩:=row_slice HR5.out
 go_wp2_with fail
 refine (HL2.out _).mono ?_
 rintro e w3 ⟨v6,rfl,hrow6,hb3⟩
 have k2:=(Mod.ofBelow hb3).keep (blk_alloc K22.out _) (by simp)
 have k3:=(Mod.ofBelow hb3).keep (blk_alloc K23.out _) (by simp)
 have k4:=(Mod.ofBelow hb3).keep (blk_alloc K24.out _) (by simp)
 have k6:=(Mod.ofBelow hb3).keep (heap_alloc_new w2 _) (by simp)
 have hrow5:=row_mod (HR5.out.alloc _) (Mod.ofBelow hb3) (by simp)
 have HA5:=Lib.hid (row_lt HR5.out)
 have hsz3:=hb3.size
 simp only [World.size_alloc] at hsz3
 have HB3:=Lib.hid ((HB2.out.alloc HB2.out.size _).trans (hb3.mono (by simp;omega)))
 obtain ⟨K32,K33,K34,K36,HR35,HR36⟩:=hid6 k2 k3 k4 k6 hrow5 hrow6
 clear c0 c1 c2 c3 c4 c5 c6 c7 c8 s0 s1 s2 s3 s4 s5 s6 l2 l3 l4 hb3 hrow5 hrow6 HB2 K22 K23 K24 HL2 HR5
 have c0:=blk_cell k2 0
 have c1:=blk_cell k2 1
 have c2:=blk_cell k2 2
 have c3:=blk_cell k2 3
 have c4:=blk_cell k2 4
 have c5:=blk_cell k2 5
 have c6:=blk_cell k2 6
 have c7:=blk_cell k2 7
 have c8:=blk_cell k2 8
 have s0:=blk_cell k3 0
 have s1:=blk_cell k3 1
 have s2:=blk_cell k3 2
 have s3:=blk_cell k3 3
 have s4:=blk_cell k3 4
 have s5:=blk_cell k3 5
 have s6:=blk_cell k3 6
 simp only [eA,eZ,eS] at c0 c1 c2 c3 c4 c5 c6 c7 c8 s0 s1 s2 s3 s4 s5 s6
 have l2:=blk_lt k2
 have l3:=blk_lt k3
 have l4:=blk_lt k4
 have l6:=blk_lt k6
 clear k2 k3 k4 k6
 obtain ⟨A6,q6,rfl,hq6,-⟩:=row_slice HR36.out
 have hN6:=natKinds_len (Kn &&& rn) 8
 have hlt6 : ∀ k (h : k < (natKinds (Kn &&& rn) 8).length),(natKinds (Kn &&& rn) 8)[k] < 8:=fun k h => natKinds_lt (List.getElem_mem h)
 generalize hNe : natKinds (Kn &&& rn) 8 = N at *
 obtain ⟨Hlt6,HNe⟩:=hid2 hlt6 hNe
 clear hlt6 hNe
 have hBt : RepBt w3 w.heap.size (Kn : Int) [a0,a1,a2,a3,a4,a5,a6,a7]:=K32.out
 have HBt:=Lib.hid hBt
 clear hBt
 obtain ⟨vs,hvs⟩ : ∃ vs,vs = [a0,a1,a2,a3,a4,a5,a6,a7]:=⟨_,rfl⟩
 have hvl : vs.length = 8:=by rw [hvs];rfl
 rw [← hvs] at HBt Hv
 obtain ⟨Hvs,Hvl⟩:=hid2 hvs hvl
 clear hvs hvl
 go_wp2
 go_loop [7,35] (fun sm i => ∃ k : Nat,k ≤ N.length ∧ i = .int .i64 k ∧ sm = .int .i64 (sumL vs x (N.take k))) (fun _ i => N.length - (Go.RowKit.intOf i).toNat)
 case atStart => exact ⟨0,by omega,rfl,rfl⟩
 case round =>
  obtain ⟨k,hk,rfl,rfl⟩:=hrel
  by_cases hlt : k < N.length
  ·obtain ⟨g6,rfl,hg6,ck⟩:=row_kind HR36.out hlt
   have hm8:=Hlt6.out k hlt
   have hss : sumL vs x (N.take (k + 1)) = sumL vs x (N.take k) + vs.getD N[k] 0:=by rw [take_succ_get N k hlt,sumL_snoc]
   have hb0:=sumL_bound (x:=x) Hv.out (N.take k)
   have hb1:=sumL_bound (x:=x) Hv.out (N.take (k + 1))
   rw [List.length_take] at hb0 hb1
   have hxx:=Hx.out
   rw [hss] at hb1
   generalize N[k] = m at *
   have hmv : m < vs.length:=by rw [Hvl.out];exact hm8
   have cm:=HBt.out.v hmv
   have hgd : vs.getD m 0 = vs[m]:=by rw [List.getD_eq_getElem?_getD,List.getElem?_eq_getElem hmv];rfl
   rw [hgd] at hss hb1
   generalize vs[m] = y at *
   generalize sumL vs x (N.take k) = S at *
   have hw:=wrapBig (S + y) (by omega) (by omega)
   have hmi : (m : Int) < 8:=by omega
   have Hss:=Lib.hid hss
   clear hss hb0 hb1 hxx hgd hmv
   go_wp2
   go_round
   case rel => exact ⟨k + 1,by omega,by go_num,by rw [Hss.out]⟩
   case measure => simp [Go.RowKit.intOf];omega
  ·obtain rfl : k = N.length:=by omega
   rw [List.take_length]
   have hS:=sumL_bound (x:=x) Hv.out N
   have hM:=natKinds_len (Kn &&& sn) 8
   have hltM : ∀ k (h : k < (natKinds (Kn &&& sn) 8).length),(natKinds (Kn &&& sn) 8)[k] < 8:=fun k h => natKinds_lt (List.getElem_mem h)
   generalize hMe : natKinds (Kn &&& sn) 8 = M at *
   have h0 : vs = (pRun 1 M 0).map (srcV vs x (sumL vs x N)):=by
    rw [Hvs.out]
    show _ = base8.map _
    simp [base8,srcV]
   have h6 : RepBt w3 w2.heap.size (Kn : Int) ((pRun 1 M 0).map (srcV vs x (sumL vs x N))):=by rw [← h0,Hvs.out];exact K36.out
   obtain ⟨HMe,H6,HltM⟩:=hid3 hMe h6 hltM
   clear hMe h0 h6 hltM hlt
   go_wp2
   trace_state
   go_loopw [48] (fun i wr => ∃ k : Nat,k ≤ M.length ∧ i = .int .i64 k ∧ RepBt wr w2.heap.size (Kn : Int) ((pRun 1 M k).map (srcV vs x (sumL vs x N))) ∧ Mod [w2.heap.size] w3 wr) (fun i _ => M.length - (Go.RowKit.intOf i).toNat)
   case atStart => exact ⟨0,by omega,rfl,H6.out,Mod.refl _ _⟩
   case round =>
    obtain ⟨k,hk,rfl,hrep,hmod⟩:=hrel
    have hsz:=hmod.size
    by_cases hlt : k < M.length
    ·have hr5:=row_mod HR35.out hmod (fun k hk => by have:=HA5.out k hk;simp;omega)
     obtain ⟨g5,rfl,hg5,ck⟩:=row_kind hr5 hlt
     have hm8:=HltM.out k hlt
     have hBt:=HBt.out.mod hmod (by simp;omega)
     have k33:=hmod.keep K33.out (by simp;omega)
     have s5:=blk_cell k33 5
     have s6:=blk_cell k33 6
     simp only [eA,eZ,eS] at s5 s6
     have hps:=pRun_succ 1 M k
     have hpl:=pRun_len 1 M k
     have hgd : M.getD k 0 = M[k]:=by rw [List.getD_eq_getElem?_getD,List.getElem?_eq_getElem hlt];rfl
     unfold pStep at hps
     rw [hgd] at hps
     generalize M[k] = m at *
     have hmv : m < vs.length:=by rw [Hvl.out];exact hm8
     have cm:=hBt.v hmv
     have hvd : vs.getD m 0 = vs[m]:=by rw [List.getD_eq_getElem?_getD,List.getElem?_eq_getElem hmv];rfl
     have om:=hrep.v (k:=m) (by rw [List.length_map,hpl];exact hm8)
     have fm:=hrep.free (1 + m)
     have lo:=hrep.lt
     have lb:=hBt.lt
     have ls:=blk_lt k33
     have hset:=hrep.set m
     generalize ((pRun 1 M k).map (srcV vs x (sumL vs x N)))[m]'(by rw [List.length_map,hpl];exact hm8) = old at om
     have hmi : (m : Int) < 8:=by omega
     have hy:=Hv.out vs[m] (List.getElem_mem hmv)
     have hxx:=Hx.out
     generalize vs[m] = y at *
     have hw:=wrapBig (y + x) (by omega) (by omega)
     clear hy hxx
     have Hps:=Lib.hid hps;have HSet:=Lib.hid hset;have Hvd:=Lib.hid hvd;have HS:=Lib.hid hS;have HX:=Lib.hid Hx.out
     clear hps hset hvd hrep hBt k33 hr5 hgd hpl hS c0 c1 c2 c3 c4 c5 c6 c7 c8 s0 s1 s2 s3 s4
     have Hn:=Lib.hid (show pRun 1 M (k + 1) = (pRun 1 M k).set m (m + 8) by rw [Hps.out];simp)
     generalize sumL vs x N = S at *
     have hfin : RepBt (wr.setCell ⟨w2.heap.size,1 + m,none⟩ (.int .i64 (cutI (y + x)))) w2.heap.size (Kn : Int) ((pRun 1 M (k + 1)).map (srcV vs x S)):=by
      rw [Hn.out,List.map_set,show srcV vs x S (m + 8) = cutI (y + x) by rw [← Hvd.out];unfold srcV;rw [if_neg (by omega),if_pos (by omega),Nat.add_sub_cancel]]
      exact HSet.out (cutI (y + x))
     have HFin:=Lib.hid hfin
     clear hfin
     go_wp2
     refine wp_planS [some 57,some 58,some 59,some 60,some 61,some 62,some 63,some 64,some 65,some 66,some 67,none] [[],[],[],[1,2],[1,2,3],[],[5],[1,2,3,4,5,6],[1,2,3,4,5,6,7],[],[0,1,2,3,4,5,6,7,8,9],[0,1,2,3,4,5,6,7,8,9,10]] [0,1,2,3,4,5,6,7,8,9,10,11] 12 11 mixed rfl (by kernel_rfl) (by decide) rfl ?_ (by decide)
     iterate 13 apply Exists.intro
     refine ⟨rfl,?_,?_⟩
     ·simp only [AllFrom.cons_eq,AllFrom.nil_eq,OpGoalS]
      refine ⟨?_,?_,?_,?_,?_,?_,?_,?_,?_,?_,?_,?_,trivial⟩
      all_goals (intro σ hp;(try simp only [gZ,gS,mC,mN,preF_cons,preF_nil,isV,and_true] at hp);(first | (have hq : True:=hp;clear hq hp) | skip))
      all_goals (first | (go_simp;exact ⟨rfl,rfl⟩) | ((go_simp;refine (cut_any _ _).mono ?_;rintro e w4 ⟨rfl,rfl⟩;exact ⟨_,rfl,rfl,rfl⟩)))
     intro σ hp
     simp only [gZ,gS,mC,mN,preF_cons,preF_nil,isV,and_true] at hp
     go_simp
     clear hp
     go_wp2
     go_roundw
     case rel => exact ⟨k + 1,by omega,by go_num,HFin.out,(hmod.setCell (.inl (by simp)) _).drew⟩
     case measure => simp [Go.RowKit.intOf];omega
    ·obtain rfl : k = M.length:=by omega
     have hpl:=pRun_len 1 M M.length
     have hk4:=hmod.keep K34.out (by simp;omega)
     have hbel:=HB3.out.trans (hmod.toBelow (B:=w.heap.size) (by simp;omega) (by omega))
     have hRes : ((pRun 1 (natKinds (Kn &&& sn) 8) (natKinds (Kn &&& sn) 8).length).map (srcV [a0,a1,a2,a3,a4,a5,a6,a7] x (sumL [a0,a1,a2,a3,a4,a5,a6,a7] x (natKinds (Kn &&& rn) 8))) = (pRun 1 M M.length).map (srcV vs x (sumL vs x N))):=by rw [HMe.out,HNe.out,Hvs.out]
     obtain ⟨rs,hrs⟩ : ∃ rs,rs = (pRun 1 M M.length).map (srcV vs x (sumL vs x N)):=⟨_,rfl⟩
     have hrl : rs.length = 8:=by rw [hrs,List.length_map,hpl]
     rw [← hrs] at hrep hRes
     obtain ⟨HRep,HK4,HBel⟩:=hid3 hrep hk4 hbel
     clear hrs hpl hrep hk4 hbel hmod hS
     have HRes:=Lib.hid hRes
     clear hRes
     match rs,hrl with
     | [b0,b1,b2,b3,b4,b5,b6,b7],_ =>
      have hr0 : wr.heap[w2.heap.size]? = some (.cells #[.int .i64 (Kn : Int),.int .i64 b0,.int .i64 b1,.int .i64 b2,.int .i64 b3,.int .i64 b4,.int .i64 b5,.int .i64 b6,.int .i64 b7] 50 (0,0)):=HRep.out
      have c0:=blk_cell hr0 0
      have c1:=blk_cell hr0 1
      have c2:=blk_cell hr0 2
      have c3:=blk_cell hr0 3
      have c4:=blk_cell hr0 4
      have c5:=blk_cell hr0 5
      have c6:=blk_cell hr0 6
      have c7:=blk_cell hr0 7
      have c8:=blk_cell hr0 8
      have z0:=blk_cell HK4.out 0
      have z1:=blk_cell HK4.out 1
      have z2:=blk_cell HK4.out 2
      have z3:=blk_cell HK4.out 3
      have z4:=blk_cell HK4.out 4
      have z5:=blk_cell HK4.out 5
      have z6:=blk_cell HK4.out 6
      have z7:=blk_cell HK4.out 7
      have z8:=blk_cell HK4.out 8
      simp only [eA,eZ,eS] at c0 z0 c1 z1 c2 z2 c3 z3 c4 z4 c5 z5 c6 z6 c7 z7 c8 z8
      have f0:=blk_free HK4.out 0
      have f1:=blk_free HK4.out 1
      have f2:=blk_free HK4.out 2
      have f3:=blk_free HK4.out 3
      have f4:=blk_free HK4.out 4
      have f5:=blk_free HK4.out 5
      have f6:=blk_free HK4.out 6
      have f7:=blk_free HK4.out 7
      have f8:=blk_free HK4.out 8
      have lr:=blk_lt hr0
      have l4:=blk_lt HK4.out
      clear hr0
      go_wp2
      refine bodyPost_ret (v:=.agg #[.int .i64 (Kn : Int),.int .i64 b0,.int .i64 b1,.int .i64 b2,.int .i64 b3,.int .i64 b4,.int .i64 b5,.int .i64 b6,.int .i64 b7]) (by unfold results;try go_simp) rfl ?_
      refine ⟨by rw [HRes.out];rfl,?_⟩
      refine Mod.toBelow (F:=[]) ?_ (by simp) (Nat.le_refl _)
      repeat (refine Mod.setCell ?_ (.inr (by simp only;omega)) _)
      exact Mod.ofBelow HBel.out
set_option maxRecDepth 20000 in
set_option maxHeartbeats 4000000 in
theorem do_yes3 (Kn rn sn : Nat) (hK : Kn < 256) (hr : rn < 256) (hs : sn < 256) (a0 a1 a2 a3 a4 a5 a6 a7 n t a x : Int) (hx : -1000000 ≤ x ∧ x ≤ 1000000) (hv : ∀ v ∈ [a0,a1,a2,a3,a4,a5,a6,a7],-1000000000 ≤ v ∧ v ≤ 1000000000) (w : World) (hm : matchesB (Kn : Int) n t a = true) :
  Calls Tryz.prog 72 #[.agg #[.int .i64 (Kn : Int),.int .i64 a0,.int .i64 a1,.int .i64 a2,.int .i64 a3,.int .i64 a4,.int .i64 a5,.int .i64 a6,.int .i64 a7],.agg #[.int .i64 n,.int .i64 t,.int .i64 a,.int .i64 (rn : Int),.int .i64 (sn : Int),.int .i64 3,.int .i64 x]] w fun e w' => e = .returned (btV (Kn : Int) ((pRun 3 (natKinds (Kn &&& sn) 8) (natKinds (Kn &&& sn) 8).length).map (srcV [a0,a1,a2,a3,a4,a5,a6,a7] x (sumL [a0,a1,a2,a3,a4,a5,a6,a7] x (natKinds (Kn &&& rn) 8))))) ∧ Below w.heap.size w w':=by
 have h1:=fun w => matches_any (Kn : Int) n t a w
 rw [hm] at h1
 have H1:=Lib.hid h1;have HL1:=Lib.hid (listNat_any Kn sn hK hs);have HL2:=Lib.hid (listNat_any Kn rn hK hr)
 obtain ⟨Hx,Hv⟩:=hid2 hx hv
 clear h1 hm hx hv
 go_enter Tryz.func72,Tryz.ntmps72
 go_wp2_with fail
 refine (H1.out _).mono ?_
 rintro e w1 ⟨rfl,hb1⟩
 obtain ⟨k2,k3,k4,hbb,hz2⟩:=do_boxes hb1
 obtain ⟨HB,K2,K3,K4⟩:=hid4 hbb k2 k3 k4
 have c0:=blk_cell k2 0
 have c1:=blk_cell k2 1
 have c2:=blk_cell k2 2
 have c3:=blk_cell k2 3
 have c4:=blk_cell k2 4
 have c5:=blk_cell k2 5
 have c6:=blk_cell k2 6
 have c7:=blk_cell k2 7
 have c8:=blk_cell k2 8
 have s0:=blk_cell k3 0
 have s1:=blk_cell k3 1
 have s2:=blk_cell k3 2
 have s3:=blk_cell k3 3
 have s4:=blk_cell k3 4
 have s5:=blk_cell k3 5
 have s6:=blk_cell k3 6
 simp only [eA,eZ,eS] at c0 c1 c2 c3 c4 c5 c6 c7 c8 s0 s1 s2 s3 s4 s5 s6
 have l2:=blk_lt k2
 have l3:=blk_lt k3
 have l4:=blk_lt k4
 clear k2 k3 k4 hbb hb1 H1
 go_wp2_with fail
 refine (HL1.out _).mono ?_
 rintro e w2 ⟨v5,rfl,hrow5,hb2⟩
 have k2:=(Mod.ofBelow hb2).keep K2.out (by simp)
 have k3:=(Mod.ofBelow hb2).keep K3.out (by simp)
 have k4:=(Mod.ofBelow hb2).keep K4.out (by simp)
 have HB2:=Lib.hid (HB.out.trans (hb2.mono (by omega)));have K22:=Lib.hid k2;have K23:=Lib.hid k3;have K24:=Lib.hid k4;have HR5:=Lib.hid hrow5
 have hsz2:=hb2.size
 clear c0 c1 c2 c3 c4 c5 c6 c7 c8 s0 s1 s2 s3 s4 s5 s6 l2 l3 l4 hb2 hrow5 HB K2 K3 K4 HL1
 have c0:=blk_cell k2 0
 have c1:=blk_cell k2 1
 have c2:=blk_cell k2 2
 have c3:=blk_cell k2 3
 have c4:=blk_cell k2 4
 have c5:=blk_cell k2 5
 have c6:=blk_cell k2 6
 have c7:=blk_cell k2 7
 have c8:=blk_cell k2 8
 have s0:=blk_cell k3 0
 have s1:=blk_cell k3 1
 have s2:=blk_cell k3 2
 have s3:=blk_cell k3 3
 have s4:=blk_cell k3 4
 have s5:=blk_cell k3 5
 have s6:=blk_cell k3 6
 simp only [eA,eZ,eS] at c0 c1 c2 c3 c4 c5 c6 c7 c8 s0 s1 s2 s3 s4 s5 s6
 have l2:=blk_lt k2
 have l3:=blk_lt k3
 have l4:=blk_lt k4
 clear k2 k3 k4
 obtain ⟨A5,q5,rfl,hq5,-⟩:=row_slice HR5.out
 go_wp2_with fail
 refine (HL2.out _).mono ?_
 rintro e w3 ⟨v6,rfl,hrow6,hb3⟩
 have k2:=(Mod.ofBelow hb3).keep (blk_alloc K22.out _) (by simp)
 have k3:=(Mod.ofBelow hb3).keep (blk_alloc K23.out _) (by simp)
 have k4:=(Mod.ofBelow hb3).keep (blk_alloc K24.out _) (by simp)
 have k6:=(Mod.ofBelow hb3).keep (heap_alloc_new w2 _) (by simp)
 have hrow5:=row_mod (HR5.out.alloc _) (Mod.ofBelow hb3) (by simp)
 have HA5:=Lib.hid (row_lt HR5.out)
 have hsz3:=hb3.size
 simp only [World.size_alloc] at hsz3
 have HB3:=Lib.hid ((HB2.out.alloc HB2.out.size _).trans (hb3.mono (by simp;omega)))
 obtain ⟨K32,K33,K34,K36,HR35,HR36⟩:=hid6 k2 k3 k4 k6 hrow5 hrow6
 clear c0 c1 c2 c3 c4 c5 c6 c7 c8 s0 s1 s2 s3 s4 s5 s6 l2 l3 l4 hb3 hrow5 hrow6 HB2 K22 K23 K24 HL2 HR5
 have c0:=blk_cell k2 0
 have c1:=blk_cell k2 1
 have c2:=blk_cell k2 2
 have c3:=blk_cell k2 3
 have c4:=blk_cell k2 4
 have c5:=blk_cell k2 5
 have c6:=blk_cell k2 6
 have c7:=blk_cell k2 7
 have c8:=blk_cell k2 8
 have s0:=blk_cell k3 0
 have s1:=blk_cell k3 1
 have s2:=blk_cell k3 2
 have s3:=blk_cell k3 3
 have s4:=blk_cell k3 4
 have s5:=blk_cell k3 5
 have s6:=blk_cell k3 6
 simp only [eA,eZ,eS] at c0 c1 c2 c3 c4 c5 c6 c7 c8 s0 s1 s2 s3 s4 s5 s6
 have l2:=blk_lt k2
 have l3:=blk_lt k3
 have l4:=blk_lt k4
 have l6:=blk_lt k6
 clear k2 k3 k4 k6
 obtain ⟨A6,q6,rfl,hq6,-⟩:=row_slice HR36.out
 have hN6:=natKinds_len (Kn &&& rn) 8
 have hlt6 : ∀ k (h : k < (natKinds (Kn &&& rn) 8).length),(natKinds (Kn &&& rn) 8)[k] < 8:=fun k h => natKinds_lt (List.getElem_mem h)
 generalize hNe : natKinds (Kn &&& rn) 8 = N at *
 obtain ⟨Hlt6,HNe⟩:=hid2 hlt6 hNe
 clear hlt6 hNe
 have hBt : RepBt w3 w.heap.size (Kn : Int) [a0,a1,a2,a3,a4,a5,a6,a7]:=K32.out
 have HBt:=Lib.hid hBt
 clear hBt
 obtain ⟨vs,hvs⟩ : ∃ vs,vs = [a0,a1,a2,a3,a4,a5,a6,a7]:=⟨_,rfl⟩
 have hvl : vs.length = 8:=by rw [hvs];rfl
 rw [← hvs] at HBt Hv
 obtain ⟨Hvs,Hvl⟩:=hid2 hvs hvl
 clear hvs hvl
 go_wp2
 go_loop [7,35] (fun sm i => ∃ k : Nat,k ≤ N.length ∧ i = .int .i64 k ∧ sm = .int .i64 (sumL vs x (N.take k))) (fun _ i => N.length - (Go.RowKit.intOf i).toNat)
 case atStart => exact ⟨0,by omega,rfl,rfl⟩
 case round =>
  obtain ⟨k,hk,rfl,rfl⟩:=hrel
  by_cases hlt : k < N.length
  ·obtain ⟨g6,rfl,hg6,ck⟩:=row_kind HR36.out hlt
   have hm8:=Hlt6.out k hlt
   have hss : sumL vs x (N.take (k + 1)) = sumL vs x (N.take k) + vs.getD N[k] 0:=by rw [take_succ_get N k hlt,sumL_snoc]
   have hb0:=sumL_bound (x:=x) Hv.out (N.take k)
   have hb1:=sumL_bound (x:=x) Hv.out (N.take (k + 1))
   rw [List.length_take] at hb0 hb1
   have hxx:=Hx.out
   rw [hss] at hb1
   generalize N[k] = m at *
   have hmv : m < vs.length:=by rw [Hvl.out];exact hm8
   have cm:=HBt.out.v hmv
   have hgd : vs.getD m 0 = vs[m]:=by rw [List.getD_eq_getElem?_getD,List.getElem?_eq_getElem hmv];rfl
   rw [hgd] at hss hb1
   generalize vs[m] = y at *
   generalize sumL vs x (N.take k) = S at *
   have hw:=wrapBig (S + y) (by omega) (by omega)
   have hmi : (m : Int) < 8:=by omega
   have Hss:=Lib.hid hss
   clear hss hb0 hb1 hxx hgd hmv
   go_wp2
   go_round
   case rel => exact ⟨k + 1,by omega,by go_num,by rw [Hss.out]⟩
   case measure => simp [Go.RowKit.intOf];omega
  ·obtain rfl : k = N.length:=by omega
   rw [List.take_length]
   have hS:=sumL_bound (x:=x) Hv.out N
   have hM:=natKinds_len (Kn &&& sn) 8
   have hltM : ∀ k (h : k < (natKinds (Kn &&& sn) 8).length),(natKinds (Kn &&& sn) 8)[k] < 8:=fun k h => natKinds_lt (List.getElem_mem h)
   generalize hMe : natKinds (Kn &&& sn) 8 = M at *
   have h0 : vs = (pRun 3 M 0).map (srcV vs x (sumL vs x N)):=by
    rw [Hvs.out]
    show _ = base8.map _
    simp [base8,srcV]
   have h6 : RepBt w3 w2.heap.size (Kn : Int) ((pRun 3 M 0).map (srcV vs x (sumL vs x N))):=by rw [← h0,Hvs.out];exact K36.out
   obtain ⟨HMe,H6,HltM⟩:=hid3 hMe h6 hltM
   clear hMe h0 h6 hltM hlt
   go_wp2
   trace_state
   go_loopw [48] (fun i wr => ∃ k : Nat,k ≤ M.length ∧ i = .int .i64 k ∧ RepBt wr w2.heap.size (Kn : Int) ((pRun 3 M k).map (srcV vs x (sumL vs x N))) ∧ Mod [w2.heap.size] w3 wr) (fun i _ => M.length - (Go.RowKit.intOf i).toNat)
   case atStart => exact ⟨0,by omega,rfl,H6.out,Mod.refl _ _⟩
   case round =>
    obtain ⟨k,hk,rfl,hrep,hmod⟩:=hrel
    have hsz:=hmod.size
    by_cases hlt : k < M.length
    ·have hr5:=row_mod HR35.out hmod (fun k hk => by have:=HA5.out k hk;simp;omega)
     obtain ⟨g5,rfl,hg5,ck⟩:=row_kind hr5 hlt
     have hm8:=HltM.out k hlt
     have hBt:=HBt.out.mod hmod (by simp;omega)
     have k33:=hmod.keep K33.out (by simp;omega)
     have s5:=blk_cell k33 5
     have s6:=blk_cell k33 6
     simp only [eA,eZ,eS] at s5 s6
     have hjlt : (k + 1) % M.length < M.length:=Nat.mod_lt _ (by omega)
     obtain ⟨g5',hg5',-,cj⟩:=row_kind hr5 hjlt
     cases hg5'
     have hj8:=HltM.out _ hjlt
     have hjd : M.getD ((k + 1) % M.length) 0 = M[(k + 1) % M.length]:=by rw [List.getD_eq_getElem?_getD,List.getElem?_eq_getElem hjlt];rfl
     have hrem : ((k : Int) + 1) % (M.length : Int) = (((k + 1) % M.length : Nat) : Int):=by first | (push_cast;rfl) | simp
     have hps:=pRun_succ 3 M k
     have hpl:=pRun_len 3 M k
     have hgd : M.getD k 0 = M[k]:=by rw [List.getD_eq_getElem?_getD,List.getElem?_eq_getElem hlt];rfl
     unfold pStep at hps
     rw [hgd,hjd] at hps
     generalize M[k] = m at *
     generalize M[(k + 1) % M.length] = q at *
     generalize (k + 1) % M.length = j at *
     have hqv : q < vs.length:=by rw [Hvl.out];exact hj8
     have cq:=hBt.v hqv
     have hqd : vs.getD q 0 = vs[q]:=by rw [List.getD_eq_getElem?_getD,List.getElem?_eq_getElem hqv];rfl
     have hqi : (q : Int) < 8:=by omega
     have hsq : srcV vs x (sumL vs x N) q = vs[q]:=by rw [← hqd];unfold srcV;rw [if_pos hj8]
     generalize vs[q] = y at *
     have Hsq:=Lib.hid hsq
     clear hsq hqd hjd
     have hmv : m < vs.length:=by rw [Hvl.out];exact hm8
     have cm:=hBt.v hmv
     have hvd : vs.getD m 0 = vs[m]:=by rw [List.getD_eq_getElem?_getD,List.getElem?_eq_getElem hmv];rfl
     have om:=hrep.v (k:=m) (by rw [List.length_map,hpl];exact hm8)
     have fm:=hrep.free (1 + m)
     have lo:=hrep.lt
     have lb:=hBt.lt
     have ls:=blk_lt k33
     have hset:=hrep.set m
     generalize ((pRun 3 M k).map (srcV vs x (sumL vs x N)))[m]'(by rw [List.length_map,hpl];exact hm8) = old at om
     have hmi : (m : Int) < 8:=by omega
     have Hps:=Lib.hid hps;have HSet:=Lib.hid hset;have Hvd:=Lib.hid hvd;have HS:=Lib.hid hS;have HX:=Lib.hid Hx.out
     clear hps hset hvd hrep hBt k33 hr5 hgd hpl hS c0 c1 c2 c3 c4 c5 c6 c7 c8 s0 s1 s2 s3 s4
     have Hn:=Lib.hid (show pRun 3 M (k + 1) = (pRun 3 M k).set m q by rw [Hps.out];simp)
     generalize sumL vs x N = S at *
     have hfin : RepBt (wr.setCell ⟨w2.heap.size,1 + m,none⟩ (.int .i64 y)) w2.heap.size (Kn : Int) ((pRun 3 M (k + 1)).map (srcV vs x S)):=by
      rw [Hn.out,List.map_set,Hsq.out]
      exact HSet.out y
     have HFin:=Lib.hid hfin
     clear hfin
     go_wp2
     go_roundw
     case rel => exact ⟨k + 1,by omega,by go_num,HFin.out,hmod.setCell (.inl (by simp)) _⟩
     case measure => simp [Go.RowKit.intOf];omega
    ·obtain rfl : k = M.length:=by omega
     have hpl:=pRun_len 3 M M.length
     have hk4:=hmod.keep K34.out (by simp;omega)
     have hbel:=HB3.out.trans (hmod.toBelow (B:=w.heap.size) (by simp;omega) (by omega))
     have hRes : ((pRun 3 (natKinds (Kn &&& sn) 8) (natKinds (Kn &&& sn) 8).length).map (srcV [a0,a1,a2,a3,a4,a5,a6,a7] x (sumL [a0,a1,a2,a3,a4,a5,a6,a7] x (natKinds (Kn &&& rn) 8))) = (pRun 3 M M.length).map (srcV vs x (sumL vs x N))):=by rw [HMe.out,HNe.out,Hvs.out]
     obtain ⟨rs,hrs⟩ : ∃ rs,rs = (pRun 3 M M.length).map (srcV vs x (sumL vs x N)):=⟨_,rfl⟩
     have hrl : rs.length = 8:=by rw [hrs,List.length_map,hpl]
     rw [← hrs] at hrep hRes
     obtain ⟨HRep,HK4,HBel⟩:=hid3 hrep hk4 hbel
     clear hrs hpl hrep hk4 hbel hmod hS
     have HRes:=Lib.hid hRes
     clear hRes
     match rs,hrl with
     | [b0,b1,b2,b3,b4,b5,b6,b7],_ =>
      have hr0 : wr.heap[w2.heap.size]? = some (.cells #[.int .i64 (Kn : Int),.int .i64 b0,.int .i64 b1,.int .i64 b2,.int .i64 b3,.int .i64 b4,.int .i64 b5,.int .i64 b6,.int .i64 b7] 50 (0,0)):=HRep.out
      have c0:=blk_cell hr0 0
      have c1:=blk_cell hr0 1
      have c2:=blk_cell hr0 2
      have c3:=blk_cell hr0 3
      have c4:=blk_cell hr0 4
      have c5:=blk_cell hr0 5
      have c6:=blk_cell hr0 6
      have c7:=blk_cell hr0 7
      have c8:=blk_cell hr0 8
      have z0:=blk_cell HK4.out 0
      have z1:=blk_cell HK4.out 1
      have z2:=blk_cell HK4.out 2
      have z3:=blk_cell HK4.out 3
      have z4:=blk_cell HK4.out 4
      have z5:=blk_cell HK4.out 5
      have z6:=blk_cell HK4.out 6
      have z7:=blk_cell HK4.out 7
      have z8:=blk_cell HK4.out 8
      simp only [eA,eZ,eS] at c0 z0 c1 z1 c2 z2 c3 z3 c4 z4 c5 z5 c6 z6 c7 z7 c8 z8
      have f0:=blk_free HK4.out 0
      have f1:=blk_free HK4.out 1
      have f2:=blk_free HK4.out 2
      have f3:=blk_free HK4.out 3
      have f4:=blk_free HK4.out 4
      have f5:=blk_free HK4.out 5
      have f6:=blk_free HK4.out 6
      have f7:=blk_free HK4.out 7
      have f8:=blk_free HK4.out 8
      have lr:=blk_lt hr0
      have l4:=blk_lt HK4.out
      clear hr0
      go_wp2
      refine bodyPost_ret (v:=.agg #[.int .i64 (Kn : Int),.int .i64 b0,.int .i64 b1,.int .i64 b2,.int .i64 b3,.int .i64 b4,.int .i64 b5,.int .i64 b6,.int .i64 b7]) (by unfold results;try go_simp) rfl ?_
      refine ⟨by rw [HRes.out];rfl,?_⟩
      refine Mod.toBelow (F:=[]) ?_ (by simp) (Nat.le_refl _)
      repeat (refine Mod.setCell ?_ (.inr (by simp only;omega)) _)
      exact Mod.ofBelow HBel.out
end Go.Proofs.YtehjfmjibiafdaaGreat
