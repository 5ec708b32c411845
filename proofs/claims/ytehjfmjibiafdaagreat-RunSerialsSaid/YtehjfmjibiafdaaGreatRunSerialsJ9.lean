import Derived.Test.YtehjfmjibiafdaaGreatRunSerialsJ7
/- A part of the proof that RunSerials returns true. -/
namespace Go.Proofs.YtehjfmjibiafdaaGreat
open Go Go.RowKit
attribute [local go_sem] AllFrom.cons_eq AllFrom.nil_eq putF_nil putF_cons wantedL_none wantedL_some OpGoalT OpGoalS OpGoalP OpGoalV YieldsR preF_nil preF_cons
theorem rRun_len (d : Int) (m k : Nat) : (rRun d m k).2.2.length = 8:=by
 induction k with
 | zero => rfl
 | succ i ih =>
  rw [rRun_succ,rStep]
  split
  ·simp only
   repeat' split
   all_goals simpa using ih
  ·exact ih
theorem sRun_len (d : Int) (m : Nat) (T : List Nat) (hT : T.length = 8) (k : Nat) : (sRun d m T k).length = 8:=by
 induction k with
 | zero => exact hT
 | succ i ih =>
  rw [sRun_succ,sStep]
  split
  ·simpa using ih
  ·exact ih
theorem rRun_end (d : Int) (hd : d = 1 ∨ d = 2 ∨ d = 3) (m k : Nat) (hm : m < 256) (hk : k ≤ 8) : ((rRun d m k).1 = -1 ∧ (rRun d m k).2.1 = -1) ∨ (0 ≤ (rRun d m k).1 ∧ (rRun d m k).1 < 8 ∧ 0 ≤ (rRun d m k).2.1 ∧ (rRun d m k).2.1 < 8):=by
 obtain ⟨h1,h2,h3,h4,h5⟩:=rRun_ends ⟨m,hm⟩ ⟨k,by omega⟩
 simp only at h1 h2 h3 h4 h5
 rcases hd with rfl | rfl | rfl
 ·rw [h1,h2];exact h5
 ·rw [h3,h4];exact h5
 ·exact h5
theorem sumL_yes (vs : List Int) (x : Int) (m k : Nat) (h : m.testBit k = true) : sumL vs x (natKinds m (k + 1)) = sumL vs x (natKinds m k) + vs.getD k 0:=by rw [natKinds_succ,if_pos h,sumL_snoc]
theorem sumL_no (vs : List Int) (x : Int) (m k : Nat) (h : m.testBit k = false) : sumL vs x (natKinds m (k + 1)) = sumL vs x (natKinds m k):=by rw [natKinds_succ,if_neg (by rw [h];simp),List.append_nil]
theorem rStep_no (d : Int) (m k : Nat) (st : Int × Int × List Nat) (h : m.testBit k = false) : rStep d m st k = st:=by unfold rStep;rw [if_neg (by rw [h];simp)]
theorem rStep_yes (d : Int) (m k : Nat) (f l : Int) (T : List Nat) (h : m.testBit k = true) : rStep d m (f,l,T) k = (if f < 0 then (k : Int) else f,(k : Int),if d = 1 then T.set k (k + 8) else if d = 3 then (if 0 ≤ l then T.set l.toNat k else T) else T):=by unfold rStep;rw [if_pos h]
theorem hasKn_any (m k : Nat) (hm : m < 256) (hk : k < 8) (b : Bool) (hb : m.testBit k = b) (w : World) : Calls Tryz.prog 102 #[.int .i64 (m : Int),.int .i64 (k : Int)] w fun e w' => e = .returned (.bool b) ∧ w = w':=by
 have:=hasKind_any (m : Int) k (by omega) w
 rw [hasK_nat m k hm,hb] at this
 exact this
set_option maxRecDepth 20000 in
set_option maxHeartbeats 4000000 in
theorem rstep_yes1 (Kn rn sn : Nat) (hK : Kn < 256) (hr : rn < 256) (hs : sn < 256) (a0 a1 a2 a3 a4 a5 a6 a7 n t a x : Int) (hn : InR n) (hx : -1000000 ≤ x ∧ x ≤ 1000000) (hv : ∀ v ∈ [a0,a1,a2,a3,a4,a5,a6,a7],-1000000000 ≤ v ∧ v ≤ 1000000000) (w : World) (hm : matchesB (Kn : Int) n t a = true) :
  Calls Tryz.prog 74 #[.agg #[.int .i64 (Kn : Int),.int .i64 a0,.int .i64 a1,.int .i64 a2,.int .i64 a3,.int .i64 a4,.int .i64 a5,.int .i64 a6,.int .i64 a7],.agg #[.int .i64 n,.int .i64 t,.int .i64 a,.int .i64 (rn : Int),.int .i64 (sn : Int),.int .i64 1,.int .i64 x]] w fun e w' => e = .returned (btV (Kn : Int) ((sRun 1 (Kn &&& sn) (rEnd 1 (rRun 1 (Kn &&& sn) 8)) 8).map (srcV [a0,a1,a2,a3,a4,a5,a6,a7] x (sumL [a0,a1,a2,a3,a4,a5,a6,a7] x (natKinds (Kn &&& rn) 8))))) ∧ Below w.heap.size w w':=by
 have h1:=fun w => refMatches_any (Kn : Int) n t a hn w
 rw [hm] at h1
 have H1:=Lib.hid h1
 obtain ⟨Hx,Hv,HKn,Hrn,Hsn⟩:=hid5 hx hv hK hr hs
 clear h1 hm hx hv hn
 go_enter Tryz.func74,Tryz.ntmps74
 go_wp2_with fail
 refine (H1.out _).mono ?_
 rintro e w1 ⟨rfl,hb1⟩
 obtain ⟨k2,k3,k4,hbb,hz2⟩:=do_boxes hb1
 obtain ⟨HB,K2,K3,K4⟩:=hid4 hbb k2 k3 k4
 have c0:=blk_cell k2 0
 have c1:=blk_cell k2 1
 have c2:=blk_cell k2 2
 have c3:=blk_cell k2 3
 have c4:=blk_cell k2 4
 have c5:=blk_cell k2 5
 have c6:=blk_cell k2 6
 have c7:=blk_cell k2 7
 have c8:=blk_cell k2 8
 have s0:=blk_cell k3 0
 have s1:=blk_cell k3 1
 have s2:=blk_cell k3 2
 have s3:=blk_cell k3 3
 have s4:=blk_cell k3 4
 have s5:=blk_cell k3 5
 have s6:=blk_cell k3 6
 simp only [eA,eZ,eS] at c0 c1 c2 c3 c4 c5 c6 c7 c8 s0 s1 s2 s3 s4 s5 s6
 have l2:=blk_lt k2
 have l3:=blk_lt k3
 have l4:=blk_lt k4
 clear k2 k3 k4 hbb hb1 H1
 go_wp2
 have hW : ∃ w3,w3 = w1.alloc (.cells #[.int .i64 (Kn : Int),.int .i64 a0,.int .i64 a1,.int .i64 a2,.int .i64 a3,.int .i64 a4,.int .i64 a5,.int .i64 a6,.int .i64 a7] 50) ∧ RepBt w3 w.heap.size (Kn : Int) [a0,a1,a2,a3,a4,a5,a6,a7] ∧ RepBt w3 w1.heap.size (Kn : Int) [a0,a1,a2,a3,a4,a5,a6,a7] ∧ w3.heap[w.heap.size + 1]? = some (.cells #[.int .i64 n,.int .i64 t,.int .i64 a,.int .i64 (rn : Int),.int .i64 (sn : Int),.int .i64 1,.int .i64 x] 132 (0,0)) ∧ w3.heap[w.heap.size + 2]? = some (.cells #[.int .i64 0,.int .i64 0,.int .i64 0,.int .i64 0,.int .i64 0,.int .i64 0,.int .i64 0,.int .i64 0,.int .i64 0] 50 (0,0)) ∧ Below w.heap.size w w3 ∧ w1.heap.size < w3.heap.size :=
  ⟨_,rfl,blk_alloc K2.out _,heap_alloc_new w1 _,blk_alloc K3.out _,blk_alloc K4.out _,HB.out.alloc HB.out.size _,by simp⟩
 obtain ⟨w3,hw3,hBt,h6,k3,k4,hB3,hsz3⟩:=hW
 rw [← hw3]
 obtain ⟨HBt,K33,K34,HB3,H6⟩:=hid5 hBt k3 k4 hB3 h6
 clear hw3 hBt k3 k4 hB3 h6 K2 K3 K4 HB c0 c1 c2 c3 c4 c5 c6 c7 c8 s0 s1 s2 s3 s4 s5 s6 l2 l3 l4
 obtain ⟨vs,hvs⟩ : ∃ vs,vs = [a0,a1,a2,a3,a4,a5,a6,a7]:=⟨_,rfl⟩
 have hvl : vs.length = 8:=by rw [hvs];rfl
 rw [← hvs] at HBt H6 Hv
 have hS:=sumL_bound (x:=x) Hv.out (natKinds (Kn &&& rn) 8)
 have hNl:=natKinds_len (Kn &&& rn) 8
 obtain ⟨S,hSe⟩ : ∃ S,S = sumL vs x (natKinds (Kn &&& rn) 8):=⟨_,rfl⟩
 rw [← hSe] at hS
 have h0 : vs = (rRun 1 (Kn &&& sn) 0).2.2.map (srcV vs x S):=by
  rw [hvs]
  show _ = base8.map _
  simp [base8,srcV]
 have Hm256:=Lib.hid (and_lt256 Kn sn HKn.out)
 have Hbits:=Lib.hid (fun k => Nat.testBit_and Kn sn k);have Hbitr:=Lib.hid (fun k => Nat.testBit_and Kn rn k)
 have H0:=Lib.hid (show RepBt w3 w1.heap.size (Kn : Int) ((rRun 1 (Kn &&& sn) 0).2.2.map (srcV vs x S)) from h0 ▸ H6.out)
 obtain ⟨hS1,hS2⟩:=hS
 have Hvs:=Lib.hid hvs;have Hvl:=Lib.hid hvl;have HSe:=Lib.hid hSe;have HS:=Lib.hid (And.intro hS1 hS2);have HNl:=Lib.hid hNl
 clear hvs hvl hSe hS1 hS2 hNl h0 H6
 generalize hme : Kn &&& sn = m at *
 have Hme:=Lib.hid hme
 clear hme
 go_loopw [6,7,8,21] (fun sm fi la i wr => ∃ k : Nat,k ≤ 8 ∧ i = .int .i64 k ∧ sm = .int .i64 (sumL vs x (natKinds (Kn &&& rn) k)) ∧ fi = .int .i64 (rRun 1 m k).1 ∧ la = .int .i64 (rRun 1 m k).2.1 ∧ RepBt wr w1.heap.size (Kn : Int) ((rRun 1 m k).2.2.map (srcV vs x S)) ∧ Mod [w1.heap.size] w3 wr) (fun _ _ _ i _ => 8 - (Go.RowKit.intOf i).toNat)
 case atStart => exact ⟨0,by omega,rfl,rfl,rfl,rfl,H0.out,Mod.refl _ _⟩
 case round =>
  obtain ⟨k,hk,rfl,rfl,rfl,rfl,hrep,hmod⟩:=hrel
  have hsz:=hmod.size
  have hBt:=HBt.out.mod hmod (by simp;omega)
  have k33:=hmod.keep K33.out (by simp;omega)
  have s3:=blk_cell k33 3
  have s1:=blk_cell k33 1
  have s2:=blk_cell k33 2
  have s4:=blk_cell k33 4
  have s5:=blk_cell k33 5
  have s6:=blk_cell k33 6
  have c0:=hBt.k
  simp only [eA,eZ,eS] at s1 s2 s3 s4 s5 s6
  have lo:=hrep.lt
  have lb:=hBt.lt
  have ls:=blk_lt k33
  have hTl:=rRun_len 1 m k
  have hends:=rRun_end 1 (by omega) m k Hm256.out hk
  have n1 : w.heap.size + 1 ≠ w1.heap.size:=by omega
  have n1' : w1.heap.size ≠ w.heap.size + 1:=by omega
  have n2 : w.heap.size ≠ w1.heap.size:=by omega
  have n2' : w1.heap.size ≠ w.heap.size:=by omega
  by_cases hlt : k < 8
  ·have hsk:=sumL_bound (x:=x) Hv.out (natKinds (Kn &&& rn) k)
   have hNk:=natKinds_len (Kn &&& rn) k
   have hmv : k < vs.length:=by rw [Hvl.out];exact hlt
   have cm:=hBt.v hmv
   have hvd : vs.getD k 0 = vs[k]:=by rw [List.getD_eq_getElem?_getD,List.getElem?_eq_getElem hmv];rfl
   have hy:=Hv.out vs[k] (List.getElem_mem hmv)
   have hrs:=rRun_succ 1 m k
   have hsy:=sumL_yes vs x (Kn &&& rn) k
   have hsn:=sumL_no vs x (Kn &&& rn) k
   have hri:=fun b => hasKn_any Kn k HKn.out hlt b
   have hrr:=fun b => hasKn_any rn k Hrn.out hlt b
   have hrw:=fun b => hasKn_any sn k Hsn.out hlt b
   rw [hvd] at hsy
   generalize vs[k] = y at *
   generalize sumL vs x (natKinds (Kn &&& rn) k) = Sk at *
   generalize rRun 1 m k = st at *
   obtain ⟨f,l,T⟩:=st
   simp only at hTl hends hrep
   have hxx:=Hx.out
   have hw:=wrapBig (Sk + y) (by omega) (by omega)
   clear hxx
   have hki : (k : Int) < 8:=by omega
   obtain ⟨Hrs,Hsy,Hsnn,Hrep,Hmod,HTl,Hvd⟩:=hid7 hrs hsy hsn hrep hmod hTl hvd
   obtain ⟨Hri,Hrr,Hrw,Hyb⟩:=hid4 hri hrr hrw hy
   clear hrs hsy hsn hrep hmod hTl hri hrr hrw hvd k33 hBt hsk hNk hmv hy
   cases hKb : Kn.testBit k with
   | false =>
    have HK1:=Lib.hid (Hri.out false hKb);have HK2:=Lib.hid HK1;have HK3:=HK2
    have Hrun:=Lib.hid (show rRun 1 m (k + 1) = (f,l,T) by rw [Hrs.out,rStep_no _ _ _ _ (by rw [Hbits.out,hKb];rfl)])
    have Hsum:=Lib.hid (show sumL vs x (natKinds (Kn &&& rn) (k + 1)) = Sk from Hsnn.out (by rw [Hbitr.out,hKb];rfl))
    clear hKb hw cm
    go_wp2_with (go_at_call 102;first | ((with_reducible refine (HK1.out _).mono ?_);rintro e w' ⟨rfl,rfl⟩) | ((with_reducible refine (HK1.out _).mono ?_);rintro e w' ⟨rfl,rfl⟩) | ((with_reducible refine (HK1.out _).mono ?_);rintro e w' ⟨rfl,rfl⟩))
    go_roundw
    case rel => exact ⟨k + 1,by omega,by go_num,by rw [Hsum.out],by rw [Hrun.out],by rw [Hrun.out],by rw [Hrun.out];exact Hrep.out,Hmod.out⟩
    case measure => simp [Go.RowKit.intOf];omega
   | true =>
    have HK1:=Lib.hid (Hri.out true hKb)
    cases hrb : rn.testBit k with
    | false =>
     have HK2:=Lib.hid (Hrr.out false hrb)
     have Hsum:=Lib.hid (show sumL vs x (natKinds (Kn &&& rn) (k + 1)) = Sk from Hsnn.out (by rw [Hbitr.out,hKb,hrb];rfl))
     clear hrb
     cases hsb : sn.testBit k with
     | false =>
      have HK3:=Lib.hid (Hrw.out false hsb)
      have Hrun:=Lib.hid (show rRun 1 m (k + 1) = (f,l,T) by rw [Hrs.out,rStep_no _ _ _ _ (by rw [Hbits.out,hKb,hsb];rfl)])
      clear hKb hsb
      go_wp2_with (go_at_call 102;first | ((with_reducible refine (HK1.out _).mono ?_);rintro e w' ⟨rfl,rfl⟩) | ((with_reducible refine (HK2.out _).mono ?_);rintro e w' ⟨rfl,rfl⟩) | ((with_reducible refine (HK3.out _).mono ?_);rintro e w' ⟨rfl,rfl⟩))
      go_roundw
      case rel => exact ⟨k + 1,by omega,by go_num,by rw [Hsum.out],by rw [Hrun.out],by rw [Hrun.out],by rw [Hrun.out];exact Hrep.out,Hmod.out⟩
      case measure => simp [Go.RowKit.intOf];omega
     | true =>
      have HK3:=Lib.hid (Hrw.out true hsb)
      have Hrun0:=Lib.hid (show rRun 1 m (k + 1) = (if f < 0 then (k : Int) else f,(k : Int),if (1 : Int) = 1 then T.set k (k + 8) else if (1 : Int) = 3 then (if 0 ≤ l then T.set l.toNat k else T) else T) by rw [Hrs.out,rStep_yes _ _ _ _ _ _ (by rw [Hbits.out,hKb,hsb];rfl)])
      clear hKb hsb
      rcases hends with ⟨rfl,rfl⟩ | ⟨hf0,hf8,hl0,hl8⟩
      ·have Hrun:=Lib.hid (show rRun 1 m (k + 1) = ((k : Int),(k : Int),T.set k (k + 8)) by rw [Hrun0.out];simp)
       have om:=Hrep.out.v (k:=k) (by rw [List.length_map,HTl.out];exact hlt)
       have fm:=Hrep.out.free (1 + k)
       have hfin : RepBt (wr.setCell ⟨w1.heap.size,1 + k,none⟩ (.int .i64 (cutI (y + x)))) w1.heap.size (Kn : Int) ((T.set k (k + 8)).map (srcV vs x S)):=by
        rw [List.map_set,show srcV vs x S (k + 8) = cutI (y + x) by rw [← Hvd.out];unfold srcV;rw [if_neg (by omega),if_pos (by omega),Nat.add_sub_cancel]]
        exact Hrep.out.set k _
       generalize (T.map (srcV vs x S))[k]'(by rw [List.length_map,HTl.out];exact hlt) = old at om
       have HFin:=Lib.hid hfin
       have hyy:=Hyb.out
       have hxx:=Hx.out
       have hw2:=wrapBig (y + x) (by omega) (by omega)
       clear hfin hyy hxx
       go_wp2_with (go_at_call 102;first | ((with_reducible refine (HK1.out _).mono ?_);rintro e w' ⟨rfl,rfl⟩) | ((with_reducible refine (HK2.out _).mono ?_);rintro e w' ⟨rfl,rfl⟩) | ((with_reducible refine (HK3.out _).mono ?_);rintro e w' ⟨rfl,rfl⟩))
       refine wp_planS [some 50,some 51,some 52,some 53,some 54,some 55,some 56,some 57,some 58,some 59,some 60,none] [[],[],[],[1,2],[1,2,3],[],[5],[1,2,3,4,5,6],[1,2,3,4,5,6,7],[],[0,1,2,3,4,5,6,7,8,9],[0,1,2,3,4,5,6,7,8,9,10]] [0,1,2,3,4,5,6,7,8,9,10,11] 12 11 mixed rfl (by kernel_rfl) (by decide) rfl ?_ (by decide)
       iterate 13 apply Exists.intro
       refine ⟨rfl,?_,?_⟩
       ·simp only [AllFrom.cons_eq,AllFrom.nil_eq,OpGoalS]
        refine ⟨?_,?_,?_,?_,?_,?_,?_,?_,?_,?_,?_,?_,trivial⟩
        all_goals (intro σ hp;(try simp only [gZ,gS,mC,mN,preF_cons,preF_nil,isV,and_true] at hp);(first | (have hq : True:=hp;clear hq hp) | skip))
        all_goals (first | (go_simp;exact ⟨rfl,rfl⟩) | ((go_simp;refine (rcut_any _ _).mono ?_;rintro e w4 ⟨rfl,rfl⟩;exact ⟨_,rfl,rfl,rfl⟩)))
       intro σ hp
       simp only [gZ,gS,mC,mN,preF_cons,preF_nil,isV,and_true] at hp
       go_simp
       clear hp
       go_wp2
       go_roundw
       case rel => exact ⟨k + 1,by omega,by go_num,by rw [Hsum.out],by rw [Hrun.out],by rw [Hrun.out],by rw [Hrun.out];exact HFin.out,(Hmod.out.setCell (.inl (by simp)) _).drew⟩
       case measure => simp [Go.RowKit.intOf];omega
      ·obtain ⟨ln,rfl⟩:=Int.eq_ofNat_of_zero_le hl0
       have Hrun:=Lib.hid (show rRun 1 m (k + 1) = (f,(k : Int),T.set k (k + 8)) by rw [Hrun0.out];simp;omega)
       have om:=Hrep.out.v (k:=k) (by rw [List.length_map,HTl.out];exact hlt)
       have fm:=Hrep.out.free (1 + k)
       have hfin : RepBt (wr.setCell ⟨w1.heap.size,1 + k,none⟩ (.int .i64 (cutI (y + x)))) w1.heap.size (Kn : Int) ((T.set k (k + 8)).map (srcV vs x S)):=by
        rw [List.map_set,show srcV vs x S (k + 8) = cutI (y + x) by rw [← Hvd.out];unfold srcV;rw [if_neg (by omega),if_pos (by omega),Nat.add_sub_cancel]]
        exact Hrep.out.set k _
       generalize (T.map (srcV vs x S))[k]'(by rw [List.length_map,HTl.out];exact hlt) = old at om
       have HFin:=Lib.hid hfin
       have hyy:=Hyb.out
       have hxx:=Hx.out
       have hw2:=wrapBig (y + x) (by omega) (by omega)
       clear hfin hyy hxx
       go_wp2_with (go_at_call 102;first | ((with_reducible refine (HK1.out _).mono ?_);rintro e w' ⟨rfl,rfl⟩) | ((with_reducible refine (HK2.out _).mono ?_);rintro e w' ⟨rfl,rfl⟩) | ((with_reducible refine (HK3.out _).mono ?_);rintro e w' ⟨rfl,rfl⟩))
       refine wp_planS [some 50,some 51,some 52,some 53,some 54,some 55,some 56,some 57,some 58,some 59,some 60,none] [[],[],[],[1,2],[1,2,3],[],[5],[1,2,3,4,5,6],[1,2,3,4,5,6,7],[],[0,1,2,3,4,5,6,7,8,9],[0,1,2,3,4,5,6,7,8,9,10]] [0,1,2,3,4,5,6,7,8,9,10,11] 12 11 mixed rfl (by kernel_rfl) (by decide) rfl ?_ (by decide)
       iterate 13 apply Exists.intro
       refine ⟨rfl,?_,?_⟩
       ·simp only [AllFrom.cons_eq,AllFrom.nil_eq,OpGoalS]
        refine ⟨?_,?_,?_,?_,?_,?_,?_,?_,?_,?_,?_,?_,trivial⟩
        all_goals (intro σ hp;(try simp only [gZ,gS,mC,mN,preF_cons,preF_nil,isV,and_true] at hp);(first | (have hq : True:=hp;clear hq hp) | skip))
        all_goals (first | (go_simp;exact ⟨rfl,rfl⟩) | ((go_simp;refine (rcut_any _ _).mono ?_;rintro e w4 ⟨rfl,rfl⟩;exact ⟨_,rfl,rfl,rfl⟩)))
       intro σ hp
       simp only [gZ,gS,mC,mN,preF_cons,preF_nil,isV,and_true] at hp
       go_simp
       clear hp
       go_wp2
       go_roundw
       case rel => exact ⟨k + 1,by omega,by go_num,by rw [Hsum.out],by rw [Hrun.out],by rw [Hrun.out],by rw [Hrun.out];exact HFin.out,(Hmod.out.setCell (.inl (by simp)) _).drew⟩
       case measure => simp [Go.RowKit.intOf];omega
    | true =>
     have HK2:=Lib.hid (Hrr.out true hrb)
     have Hsum:=Lib.hid (show sumL vs x (natKinds (Kn &&& rn) (k + 1)) = Sk + y from Hsy.out (by rw [Hbitr.out,hKb,hrb];rfl))
     clear hrb
     cases hsb : sn.testBit k with
     | false =>
      have HK3:=Lib.hid (Hrw.out false hsb)
      have Hrun:=Lib.hid (show rRun 1 m (k + 1) = (f,l,T) by rw [Hrs.out,rStep_no _ _ _ _ (by rw [Hbits.out,hKb,hsb];rfl)])
      clear hKb hsb
      go_wp2_with (go_at_call 102;first | ((with_reducible refine (HK1.out _).mono ?_);rintro e w' ⟨rfl,rfl⟩) | ((with_reducible refine (HK2.out _).mono ?_);rintro e w' ⟨rfl,rfl⟩) | ((with_reducible refine (HK3.out _).mono ?_);rintro e w' ⟨rfl,rfl⟩))
      go_roundw
      case rel => exact ⟨k + 1,by omega,by go_num,by rw [Hsum.out],by rw [Hrun.out],by rw [Hrun.out],by rw [Hrun.out];exact Hrep.out,Hmod.out⟩
      case measure => simp [Go.RowKit.intOf];omega
     | true =>
      have HK3:=Lib.hid (Hrw.out true hsb)
      have Hrun0:=Lib.hid (show rRun 1 m (k + 1) = (if f < 0 then (k : Int) else f,(k : Int),if (1 : Int) = 1 then T.set k (k + 8) else if (1 : Int) = 3 then (if 0 ≤ l then T.set l.toNat k else T) else T) by rw [Hrs.out,rStep_yes _ _ _ _ _ _ (by rw [Hbits.out,hKb,hsb];rfl)])
      clear hKb hsb
      rcases hends with ⟨rfl,rfl⟩ | ⟨hf0,hf8,hl0,hl8⟩
      ·have Hrun:=Lib.hid (show rRun 1 m (k + 1) = ((k : Int),(k : Int),T.set k (k + 8)) by rw [Hrun0.out];simp)
       have om:=Hrep.out.v (k:=k) (by rw [List.length_map,HTl.out];exact hlt)
       have fm:=Hrep.out.free (1 + k)
       have hfin : RepBt (wr.setCell ⟨w1.heap.size,1 + k,none⟩ (.int .i64 (cutI (y + x)))) w1.heap.size (Kn : Int) ((T.set k (k + 8)).map (srcV vs x S)):=by
        rw [List.map_set,show srcV vs x S (k + 8) = cutI (y + x) by rw [← Hvd.out];unfold srcV;rw [if_neg (by omega),if_pos (by omega),Nat.add_sub_cancel]]
        exact Hrep.out.set k _
       generalize (T.map (srcV vs x S))[k]'(by rw [List.length_map,HTl.out];exact hlt) = old at om
       have HFin:=Lib.hid hfin
       have hyy:=Hyb.out
       have hxx:=Hx.out
       have hw2:=wrapBig (y + x) (by omega) (by omega)
       clear hfin hyy hxx
       go_wp2_with (go_at_call 102;first | ((with_reducible refine (HK1.out _).mono ?_);rintro e w' ⟨rfl,rfl⟩) | ((with_reducible refine (HK2.out _).mono ?_);rintro e w' ⟨rfl,rfl⟩) | ((with_reducible refine (HK3.out _).mono ?_);rintro e w' ⟨rfl,rfl⟩))
       refine wp_planS [some 50,some 51,some 52,some 53,some 54,some 55,some 56,some 57,some 58,some 59,some 60,none] [[],[],[],[1,2],[1,2,3],[],[5],[1,2,3,4,5,6],[1,2,3,4,5,6,7],[],[0,1,2,3,4,5,6,7,8,9],[0,1,2,3,4,5,6,7,8,9,10]] [0,1,2,3,4,5,6,7,8,9,10,11] 12 11 mixed rfl (by kernel_rfl) (by decide) rfl ?_ (by decide)
       iterate 13 apply Exists.intro
       refine ⟨rfl,?_,?_⟩
       ·simp only [AllFrom.cons_eq,AllFrom.nil_eq,OpGoalS]
        refine ⟨?_,?_,?_,?_,?_,?_,?_,?_,?_,?_,?_,?_,trivial⟩
        all_goals (intro σ hp;(try simp only [gZ,gS,mC,mN,preF_cons,preF_nil,isV,and_true] at hp);(first | (have hq : True:=hp;clear hq hp) | skip))
        all_goals (first | (go_simp;exact ⟨rfl,rfl⟩) | ((go_simp;refine (rcut_any _ _).mono ?_;rintro e w4 ⟨rfl,rfl⟩;exact ⟨_,rfl,rfl,rfl⟩)))
       intro σ hp
       simp only [gZ,gS,mC,mN,preF_cons,preF_nil,isV,and_true] at hp
       go_simp
       clear hp
       go_wp2
       go_roundw
       case rel => exact ⟨k + 1,by omega,by go_num,by rw [Hsum.out],by rw [Hrun.out],by rw [Hrun.out],by rw [Hrun.out];exact HFin.out,(Hmod.out.setCell (.inl (by simp)) _).drew⟩
       case measure => simp [Go.RowKit.intOf];omega
      ·obtain ⟨ln,rfl⟩:=Int.eq_ofNat_of_zero_le hl0
       have Hrun:=Lib.hid (show rRun 1 m (k + 1) = (f,(k : Int),T.set k (k + 8)) by rw [Hrun0.out];simp;omega)
       have om:=Hrep.out.v (k:=k) (by rw [List.length_map,HTl.out];exact hlt)
       have fm:=Hrep.out.free (1 + k)
       have hfin : RepBt (wr.setCell ⟨w1.heap.size,1 + k,none⟩ (.int .i64 (cutI (y + x)))) w1.heap.size (Kn : Int) ((T.set k (k + 8)).map (srcV vs x S)):=by
        rw [List.map_set,show srcV vs x S (k + 8) = cutI (y + x) by rw [← Hvd.out];unfold srcV;rw [if_neg (by omega),if_pos (by omega),Nat.add_sub_cancel]]
        exact Hrep.out.set k _
       generalize (T.map (srcV vs x S))[k]'(by rw [List.length_map,HTl.out];exact hlt) = old at om
       have HFin:=Lib.hid hfin
       have hyy:=Hyb.out
       have hxx:=Hx.out
       have hw2:=wrapBig (y + x) (by omega) (by omega)
       clear hfin hyy hxx
       go_wp2_with (go_at_call 102;first | ((with_reducible refine (HK1.out _).mono ?_);rintro e w' ⟨rfl,rfl⟩) | ((with_reducible refine (HK2.out _).mono ?_);rintro e w' ⟨rfl,rfl⟩) | ((with_reducible refine (HK3.out _).mono ?_);rintro e w' ⟨rfl,rfl⟩))
       refine wp_planS [some 50,some 51,some 52,some 53,some 54,some 55,some 56,some 57,some 58,some 59,some 60,none] [[],[],[],[1,2],[1,2,3],[],[5],[1,2,3,4,5,6],[1,2,3,4,5,6,7],[],[0,1,2,3,4,5,6,7,8,9],[0,1,2,3,4,5,6,7,8,9,10]] [0,1,2,3,4,5,6,7,8,9,10,11] 12 11 mixed rfl (by kernel_rfl) (by decide) rfl ?_ (by decide)
       iterate 13 apply Exists.intro
       refine ⟨rfl,?_,?_⟩
       ·simp only [AllFrom.cons_eq,AllFrom.nil_eq,OpGoalS]
        refine ⟨?_,?_,?_,?_,?_,?_,?_,?_,?_,?_,?_,?_,trivial⟩
        all_goals (intro σ hp;(try simp only [gZ,gS,mC,mN,preF_cons,preF_nil,isV,and_true] at hp);(first | (have hq : True:=hp;clear hq hp) | skip))
        all_goals (first | (go_simp;exact ⟨rfl,rfl⟩) | ((go_simp;refine (rcut_any _ _).mono ?_;rintro e w4 ⟨rfl,rfl⟩;exact ⟨_,rfl,rfl,rfl⟩)))
       intro σ hp
       simp only [gZ,gS,mC,mN,preF_cons,preF_nil,isV,and_true] at hp
       go_simp
       clear hp
       go_wp2
       go_roundw
       case rel => exact ⟨k + 1,by omega,by go_num,by rw [Hsum.out],by rw [Hrun.out],by rw [Hrun.out],by rw [Hrun.out];exact HFin.out,(Hmod.out.setCell (.inl (by simp)) _).drew⟩
       case measure => simp [Go.RowKit.intOf];omega
  ·obtain rfl : k = 8:=by omega
   rw [← HSe.out]
   rw [show ((8 : Nat) : Int) = 8 from rfl]
   clear hlt c0
   have hT0l : (rEnd 1 (rRun 1 m 8)).length = 8:=by unfold rEnd;split <;> simpa using hTl
   obtain ⟨Hrep,Hmod,HTl⟩:=hid3 hrep hmod hTl
   clear hrep hmod hTl
   have hre : rEnd 1 (rRun 1 m 8) = rEnd 1 ((rRun 1 m 8).1,(rRun 1 m 8).2.1,(rRun 1 m 8).2.2):=rfl
   generalize hst : rRun 1 m 8 = st at *
   obtain ⟨f,l,T⟩:=st
   simp only at hends Hrep HTl
   have Hst:=Lib.hid hst
   clear hst hre
   have hT0 : rEnd 1 (f,l,T) = T:=by unfold rEnd;simp
   have HRep0:=Lib.hid (show RepBt wr w1.heap.size (Kn : Int) ((sRun 1 m (rEnd 1 (f,l,T)) 0).map (srcV vs x S)) by rw [hT0];exact Hrep.out)
   have HMod0:=Lib.hid Hmod.out
   clear hT0
   obtain ⟨T0,hT0e⟩ : ∃ T0,T0 = rEnd 1 (f,l,T):=⟨_,rfl⟩
   rw [← hT0e] at HRep0 hT0l
   have HT0:=Lib.hid hT0e.symm
   clear hT0e
   go_wp2
   have HT0l:=Lib.hid hT0l
   clear hT0l
   go_loopw [91] (fun i wr => ∃ k : Nat,k ≤ 8 ∧ i = .int .i64 k ∧ RepBt wr w1.heap.size (Kn : Int) ((sRun 1 m T0 k).map (srcV vs x S)) ∧ Mod [w1.heap.size] w3 wr) (fun i _ => 8 - (Go.RowKit.intOf i).toNat)
   case atStart => exact ⟨0,by omega,rfl,HRep0.out,HMod0.out⟩
   case round =>
    obtain ⟨k,hk,rfl,hrep,hmod⟩:=hrel
    have hsz':=hmod.size
    have hBt:=HBt.out.mod hmod (by simp;omega)
    have k33:=hmod.keep K33.out (by simp;omega)
    have s2:=blk_cell k33 2
    have s3:=blk_cell k33 3
    have s4:=blk_cell k33 4
    have s5:=blk_cell k33 5
    have c0:=hBt.k
    simp only [eA,eZ,eS] at s2 s3 s4 s5
    have lo:=hrep.lt
    have hTl:=sRun_len 1 m T0 HT0l.out k
    by_cases hlt : k < 8
    ·have Hss:=Lib.hid (show sRun 1 m T0 (k + 1) = sRun 1 m T0 k by rw [sRun_succ];unfold sStep;simp)
     obtain ⟨Hrep,Hmod⟩:=hid2 hrep hmod
     clear hrep hmod hBt k33 hTl
     go_wp2
     go_roundw
     case rel => exact ⟨k + 1,by omega,by go_num,by rw [Hss.out];exact Hrep.out,Hmod.out⟩
     case measure => simp [Go.RowKit.intOf];omega
    ·obtain rfl : k = 8:=by omega
     have hk4:=hmod.keep K34.out (by simp;omega)
     have hbel:=HB3.out.trans (hmod.toBelow (B:=w.heap.size) (by simp;omega) (by omega))
     obtain ⟨rs,hrs⟩ : ∃ rs,rs = (sRun 1 m T0 8).map (srcV vs x S):=⟨_,rfl⟩
     have hrl : rs.length = 8:=by rw [hrs,List.length_map,hTl]
     rw [← hrs] at hrep
     have HRes:=Lib.hid (show (sRun 1 (Kn &&& sn) (rEnd 1 (rRun 1 (Kn &&& sn) 8)) 8).map (srcV [a0,a1,a2,a3,a4,a5,a6,a7] x (sumL [a0,a1,a2,a3,a4,a5,a6,a7] x (natKinds (Kn &&& rn) 8))) = rs by rw [Hme.out,← Hvs.out,← HSe.out,Hst.out,HT0.out];exact hrs.symm)
     obtain ⟨HRep,HK4,HBel⟩:=hid3 hrep hk4 hbel
     clear hrs hTl hrep hk4 hbel hmod s2 s3 s4 s5 c0 k33 hBt
     match rs,hrl with
     | [b0,b1,b2,b3,b4,b5,b6,b7],_ =>
      have hr0 : wr.heap[w1.heap.size]? = some (.cells #[.int .i64 (Kn : Int),.int .i64 b0,.int .i64 b1,.int .i64 b2,.int .i64 b3,.int .i64 b4,.int .i64 b5,.int .i64 b6,.int .i64 b7] 50 (0,0)):=HRep.out
      have c0:=blk_cell hr0 0
      have c1:=blk_cell hr0 1
      have c2:=blk_cell hr0 2
      have c3:=blk_cell hr0 3
      have c4:=blk_cell hr0 4
      have c5:=blk_cell hr0 5
      have c6:=blk_cell hr0 6
      have c7:=blk_cell hr0 7
      have c8:=blk_cell hr0 8
      have z0:=blk_cell HK4.out 0
      have z1:=blk_cell HK4.out 1
      have z2:=blk_cell HK4.out 2
      have z3:=blk_cell HK4.out 3
      have z4:=blk_cell HK4.out 4
      have z5:=blk_cell HK4.out 5
      have z6:=blk_cell HK4.out 6
      have z7:=blk_cell HK4.out 7
      have z8:=blk_cell HK4.out 8
      simp only [eA,eZ,eS] at c0 z0 c1 z1 c2 z2 c3 z3 c4 z4 c5 z5 c6 z6 c7 z7 c8 z8
      have f0:=blk_free HK4.out 0
      have f1:=blk_free HK4.out 1
      have f2:=blk_free HK4.out 2
      have f3:=blk_free HK4.out 3
      have f4:=blk_free HK4.out 4
      have f5:=blk_free HK4.out 5
      have f6:=blk_free HK4.out 6
      have f7:=blk_free HK4.out 7
      have f8:=blk_free HK4.out 8
      have lr:=blk_lt hr0
      have l4:=blk_lt HK4.out
      clear hr0
      go_wp2
      refine bodyPost_ret (v:=.agg #[.int .i64 (Kn : Int),.int .i64 b0,.int .i64 b1,.int .i64 b2,.int .i64 b3,.int .i64 b4,.int .i64 b5,.int .i64 b6,.int .i64 b7]) (by unfold results;try go_simp) rfl ?_
      refine ⟨by rw [HRes.out];rfl,?_⟩
      refine Mod.toBelow (F:=[]) ?_ (by simp) (Nat.le_refl _)
      repeat (refine Mod.setCell ?_ (.inr (by simp only;omega)) _)
      exact Mod.ofBelow HBel.out
end Go.Proofs.YtehjfmjibiafdaaGreat
