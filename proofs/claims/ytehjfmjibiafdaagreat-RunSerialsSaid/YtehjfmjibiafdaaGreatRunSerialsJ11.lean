import Derived.Test.YtehjfmjibiafdaaGreatRows
import Derived.Test.YtehjfmjibiafdaaGreatRunSerialsJ8
import Derived.Test.YtehjfmjibiafdaaGreatRunSerialsJ10
/- A part of the proof that RunSerials returns true. -/
namespace Go.Proofs.YtehjfmjibiafdaaGreat
open Go Go.RowKit
attribute [local go_sem] AllFrom.cons_eq AllFrom.nil_eq putF_nil putF_cons wantedL_none wantedL_some OpGoalT OpGoalS OpGoalP OpGoalV YieldsR preF_nil preF_cons
set_option maxRecDepth 20000 in
set_option maxHeartbeats 4000000 in
theorem rstep_yes3 (Kn rn sn : Nat) (hK : Kn < 256) (hr : rn < 256) (hs : sn < 256) (a0 a1 a2 a3 a4 a5 a6 a7 n t a x : Int) (hn : InR n) (hx : -1000000 ≤ x ∧ x ≤ 1000000) (hv : ∀ v ∈ [a0,a1,a2,a3,a4,a5,a6,a7],-1000000000 ≤ v ∧ v ≤ 1000000000) (w : World) (hm : matchesB (Kn : Int) n t a = true) :
  Calls Tryz.prog 74 #[.agg #[.int .i64 (Kn : Int),.int .i64 a0,.int .i64 a1,.int .i64 a2,.int .i64 a3,.int .i64 a4,.int .i64 a5,.int .i64 a6,.int .i64 a7],.agg #[.int .i64 n,.int .i64 t,.int .i64 a,.int .i64 (rn : Int),.int .i64 (sn : Int),.int .i64 3,.int .i64 x]] w fun e w' => e = .returned (btV (Kn : Int) ((sRun 3 (Kn &&& sn) (rEnd 3 (rRun 3 (Kn &&& sn) 8)) 8).map (srcV [a0,a1,a2,a3,a4,a5,a6,a7] x (sumL [a0,a1,a2,a3,a4,a5,a6,a7] x (natKinds (Kn &&& rn) 8))))) ∧ Below w.heap.size w w':=by
 have h1:=fun w => refMatches_any (Kn : Int) n t a hn w
 rw [hm] at h1
 have H1:=Lib.hid h1
 obtain ⟨Hx,Hv,HKn,Hrn,Hsn⟩:=hid5 hx hv hK hr hs
 clear h1 hm hx hv hn
 go_enter Tryz.func74,Tryz.ntmps74
 go_wp2_with fail
 refine (H1.out _).mono ?_
 rintro e w1 ⟨rfl,hb1⟩
 obtain ⟨k2,k3,k4,hbb,hz2⟩:=do_boxes hb1
 obtain ⟨HB,K2,K3,K4⟩:=hid4 hbb k2 k3 k4
 have c0:=blk_cell k2 0
 have c1:=blk_cell k2 1
 have c2:=blk_cell k2 2
 have c3:=blk_cell k2 3
 have c4:=blk_cell k2 4
 have c5:=blk_cell k2 5
 have c6:=blk_cell k2 6
 have c7:=blk_cell k2 7
 have c8:=blk_cell k2 8
 have s0:=blk_cell k3 0
 have s1:=blk_cell k3 1
 have s2:=blk_cell k3 2
 have s3:=blk_cell k3 3
 have s4:=blk_cell k3 4
 have s5:=blk_cell k3 5
 have s6:=blk_cell k3 6
 simp only [eA,eZ,eS] at c0 c1 c2 c3 c4 c5 c6 c7 c8 s0 s1 s2 s3 s4 s5 s6
 have l2:=blk_lt k2
 have l3:=blk_lt k3
 have l4:=blk_lt k4
 clear k2 k3 k4 hbb hb1 H1
 go_wp2
 have hW : ∃ w3,w3 = w1.alloc (.cells #[.int .i64 (Kn : Int),.int .i64 a0,.int .i64 a1,.int .i64 a2,.int .i64 a3,.int .i64 a4,.int .i64 a5,.int .i64 a6,.int .i64 a7] 50) ∧ RepBt w3 w.heap.size (Kn : Int) [a0,a1,a2,a3,a4,a5,a6,a7] ∧ RepBt w3 w1.heap.size (Kn : Int) [a0,a1,a2,a3,a4,a5,a6,a7] ∧ w3.heap[w.heap.size + 1]? = some (.cells #[.int .i64 n,.int .i64 t,.int .i64 a,.int .i64 (rn : Int),.int .i64 (sn : Int),.int .i64 3,.int .i64 x] 132 (0,0)) ∧ w3.heap[w.heap.size + 2]? = some (.cells #[.int .i64 0,.int .i64 0,.int .i64 0,.int .i64 0,.int .i64 0,.int .i64 0,.int .i64 0,.int .i64 0,.int .i64 0] 50 (0,0)) ∧ Below w.heap.size w w3 ∧ w1.heap.size < w3.heap.size :=
  ⟨_,rfl,blk_alloc K2.out _,heap_alloc_new w1 _,blk_alloc K3.out _,blk_alloc K4.out _,HB.out.alloc HB.out.size _,by simp⟩
 obtain ⟨w3,hw3,hBt,h6,k3,k4,hB3,hsz3⟩:=hW
 rw [← hw3]
 obtain ⟨HBt,K33,K34,HB3,H6⟩:=hid5 hBt k3 k4 hB3 h6
 clear hw3 hBt k3 k4 hB3 h6 K2 K3 K4 HB c0 c1 c2 c3 c4 c5 c6 c7 c8 s0 s1 s2 s3 s4 s5 s6 l2 l3 l4
 obtain ⟨vs,hvs⟩ : ∃ vs,vs = [a0,a1,a2,a3,a4,a5,a6,a7]:=⟨_,rfl⟩
 have hvl : vs.length = 8:=by rw [hvs];rfl
 rw [← hvs] at HBt H6 Hv
 have hS:=sumL_bound (x:=x) Hv.out (natKinds (Kn &&& rn) 8)
 have hNl:=natKinds_len (Kn &&& rn) 8
 obtain ⟨S,hSe⟩ : ∃ S,S = sumL vs x (natKinds (Kn &&& rn) 8):=⟨_,rfl⟩
 rw [← hSe] at hS
 have h0 : vs = (rRun 3 (Kn &&& sn) 0).2.2.map (srcV vs x S):=by
  rw [hvs]
  show _ = base8.map _
  simp [base8,srcV]
 have Hm256:=Lib.hid (and_lt256 Kn sn HKn.out)
 have Hbits:=Lib.hid (fun k => Nat.testBit_and Kn sn k);have Hbitr:=Lib.hid (fun k => Nat.testBit_and Kn rn k)
 have H0:=Lib.hid (show RepBt w3 w1.heap.size (Kn : Int) ((rRun 3 (Kn &&& sn) 0).2.2.map (srcV vs x S)) from h0 ▸ H6.out)
 obtain ⟨hS1,hS2⟩:=hS
 have Hvs:=Lib.hid hvs;have Hvl:=Lib.hid hvl;have HSe:=Lib.hid hSe;have HS:=Lib.hid (And.intro hS1 hS2);have HNl:=Lib.hid hNl
 clear hvs hvl hSe hS1 hS2 hNl h0 H6
 generalize hme : Kn &&& sn = m at *
 have Hme:=Lib.hid hme
 clear hme
 go_loopw [6,7,8,21] (fun sm fi la i wr => ∃ k : Nat,k ≤ 8 ∧ i = .int .i64 k ∧ sm = .int .i64 (sumL vs x (natKinds (Kn &&& rn) k)) ∧ fi = .int .i64 (rRun 3 m k).1 ∧ la = .int .i64 (rRun 3 m k).2.1 ∧ RepBt wr w1.heap.size (Kn : Int) ((rRun 3 m k).2.2.map (srcV vs x S)) ∧ Mod [w1.heap.size] w3 wr) (fun _ _ _ i _ => 8 - (Go.RowKit.intOf i).toNat)
 case atStart => exact ⟨0,by omega,rfl,rfl,rfl,rfl,H0.out,Mod.refl _ _⟩
 case round =>
  obtain ⟨k,hk,rfl,rfl,rfl,rfl,hrep,hmod⟩:=hrel
  have hsz:=hmod.size
  have hBt:=HBt.out.mod hmod (by simp;omega)
  have k33:=hmod.keep K33.out (by simp;omega)
  have s3:=blk_cell k33 3
  have s1:=blk_cell k33 1
  have s2:=blk_cell k33 2
  have s4:=blk_cell k33 4
  have s5:=blk_cell k33 5
  have s6:=blk_cell k33 6
  have c0:=hBt.k
  simp only [eA,eZ,eS] at s1 s2 s3 s4 s5 s6
  have lo:=hrep.lt
  have lb:=hBt.lt
  have ls:=blk_lt k33
  have hTl:=rRun_len 3 m k
  have hends:=rRun_end 3 (by omega) m k Hm256.out hk
  have n1 : w.heap.size + 1 ≠ w1.heap.size:=by omega
  have n1' : w1.heap.size ≠ w.heap.size + 1:=by omega
  have n2 : w.heap.size ≠ w1.heap.size:=by omega
  have n2' : w1.heap.size ≠ w.heap.size:=by omega
  by_cases hlt : k < 8
  ·have hsk:=sumL_bound (x:=x) Hv.out (natKinds (Kn &&& rn) k)
   have hNk:=natKinds_len (Kn &&& rn) k
   have hmv : k < vs.length:=by rw [Hvl.out];exact hlt
   have cm:=hBt.v hmv
   have hvd : vs.getD k 0 = vs[k]:=by rw [List.getD_eq_getElem?_getD,List.getElem?_eq_getElem hmv];rfl
   have hy:=Hv.out vs[k] (List.getElem_mem hmv)
   have hrs:=rRun_succ 3 m k
   have hsy:=sumL_yes vs x (Kn &&& rn) k
   have hsn:=sumL_no vs x (Kn &&& rn) k
   have hri:=fun b => hasKn_any Kn k HKn.out hlt b
   have hrr:=fun b => hasKn_any rn k Hrn.out hlt b
   have hrw:=fun b => hasKn_any sn k Hsn.out hlt b
   rw [hvd] at hsy
   generalize vs[k] = y at *
   generalize sumL vs x (natKinds (Kn &&& rn) k) = Sk at *
   generalize rRun 3 m k = st at *
   obtain ⟨f,l,T⟩:=st
   simp only at hTl hends hrep
   have hxx:=Hx.out
   have hw:=wrapBig (Sk + y) (by omega) (by omega)
   clear hxx
   have hki : (k : Int) < 8:=by omega
   obtain ⟨Hrs,Hsy,Hsnn,Hrep,Hmod,HTl,Hvd⟩:=hid7 hrs hsy hsn hrep hmod hTl hvd
   obtain ⟨Hri,Hrr,Hrw,Hyb⟩:=hid4 hri hrr hrw hy
   clear hrs hsy hsn hrep hmod hTl hri hrr hrw hvd k33 hBt hsk hNk hmv hy
   cases hKb : Kn.testBit k with
   | false =>
    have HK1:=Lib.hid (Hri.out false hKb);have HK2:=Lib.hid HK1;have HK3:=HK2
    have Hrun:=Lib.hid (show rRun 3 m (k + 1) = (f,l,T) by rw [Hrs.out,rStep_no _ _ _ _ (by rw [Hbits.out,hKb];rfl)])
    have Hsum:=Lib.hid (show sumL vs x (natKinds (Kn &&& rn) (k + 1)) = Sk from Hsnn.out (by rw [Hbitr.out,hKb];rfl))
    clear hKb hw cm
    go_wp2_with (go_at_call 102;first | ((with_reducible refine (HK1.out _).mono ?_);rintro e w' ⟨rfl,rfl⟩) | ((with_reducible refine (HK1.out _).mono ?_);rintro e w' ⟨rfl,rfl⟩) | ((with_reducible refine (HK1.out _).mono ?_);rintro e w' ⟨rfl,rfl⟩))
    go_roundw
    case rel => exact ⟨k + 1,by omega,by go_num,by rw [Hsum.out],by rw [Hrun.out],by rw [Hrun.out],by rw [Hrun.out];exact Hrep.out,Hmod.out⟩
    case measure => simp [Go.RowKit.intOf];omega
   | true =>
    have HK1:=Lib.hid (Hri.out true hKb)
    cases hrb : rn.testBit k with
    | false =>
     have HK2:=Lib.hid (Hrr.out false hrb)
     have Hsum:=Lib.hid (show sumL vs x (natKinds (Kn &&& rn) (k + 1)) = Sk from Hsnn.out (by rw [Hbitr.out,hKb,hrb];rfl))
     clear hrb
     cases hsb : sn.testBit k with
     | false =>
      have HK3:=Lib.hid (Hrw.out false hsb)
      have Hrun:=Lib.hid (show rRun 3 m (k + 1) = (f,l,T) by rw [Hrs.out,rStep_no _ _ _ _ (by rw [Hbits.out,hKb,hsb];rfl)])
      clear hKb hsb
      go_wp2_with (go_at_call 102;first | ((with_reducible refine (HK1.out _).mono ?_);rintro e w' ⟨rfl,rfl⟩) | ((with_reducible refine (HK2.out _).mono ?_);rintro e w' ⟨rfl,rfl⟩) | ((with_reducible refine (HK3.out _).mono ?_);rintro e w' ⟨rfl,rfl⟩))
      go_roundw
      case rel => exact ⟨k + 1,by omega,by go_num,by rw [Hsum.out],by rw [Hrun.out],by rw [Hrun.out],by rw [Hrun.out];exact Hrep.out,Hmod.out⟩
      case measure => simp [Go.RowKit.intOf];omega
     | true =>
      have HK3:=Lib.hid (Hrw.out true hsb)
      have Hrun0:=Lib.hid (show rRun 3 m (k + 1) = (if f < 0 then (k : Int) else f,(k : Int),if (3 : Int) = 1 then T.set k (k + 8) else if (3 : Int) = 3 then (if 0 ≤ l then T.set l.toNat k else T) else T) by rw [Hrs.out,rStep_yes _ _ _ _ _ _ (by rw [Hbits.out,hKb,hsb];rfl)])
      clear hKb hsb
      rcases hends with ⟨rfl,rfl⟩ | ⟨hf0,hf8,hl0,hl8⟩
      ·have Hrun:=Lib.hid (show rRun 3 m (k + 1) = ((k : Int),(k : Int),T) by rw [Hrun0.out];simp)
       go_wp2_with (go_at_call 102;first | ((with_reducible refine (HK1.out _).mono ?_);rintro e w' ⟨rfl,rfl⟩) | ((with_reducible refine (HK2.out _).mono ?_);rintro e w' ⟨rfl,rfl⟩) | ((with_reducible refine (HK3.out _).mono ?_);rintro e w' ⟨rfl,rfl⟩))
       go_roundw
       case rel => exact ⟨k + 1,by omega,by go_num,by rw [Hsum.out],by rw [Hrun.out],by rw [Hrun.out],by rw [Hrun.out];exact Hrep.out,Hmod.out⟩
       case measure => simp [Go.RowKit.intOf];omega
      ·obtain ⟨ln,rfl⟩:=Int.eq_ofNat_of_zero_le hl0
       have Hrun:=Lib.hid (show rRun 3 m (k + 1) = (f,(k : Int),T.set ln k) by rw [Hrun0.out];simp;omega)
       have hln : ln < 8:=by omega
       have om:=Hrep.out.v (k:=ln) (by rw [List.length_map,HTl.out];exact hln)
       have fm:=Hrep.out.free (1 + ln)
       have hfin : RepBt (wr.setCell ⟨w1.heap.size,1 + ln,none⟩ (.int .i64 y)) w1.heap.size (Kn : Int) ((T.set ln k).map (srcV vs x S)):=by
        rw [List.map_set,show srcV vs x S k = y by rw [← Hvd.out];unfold srcV;rw [if_pos hlt]]
        exact Hrep.out.set ln _
       generalize (T.map (srcV vs x S))[ln]'(by rw [List.length_map,HTl.out];exact hln) = old at om
       have HFin:=Lib.hid hfin
       clear hfin
       go_wp2_with (go_at_call 102;first | ((with_reducible refine (HK1.out _).mono ?_);rintro e w' ⟨rfl,rfl⟩) | ((with_reducible refine (HK2.out _).mono ?_);rintro e w' ⟨rfl,rfl⟩) | ((with_reducible refine (HK3.out _).mono ?_);rintro e w' ⟨rfl,rfl⟩))
       go_roundw
       case rel => exact ⟨k + 1,by omega,by go_num,by rw [Hsum.out],by rw [Hrun.out],by rw [Hrun.out],by rw [Hrun.out];exact HFin.out,Hmod.out.setCell (.inl (by simp)) _⟩
       case measure => simp [Go.RowKit.intOf];omega
    | true =>
     have HK2:=Lib.hid (Hrr.out true hrb)
     have Hsum:=Lib.hid (show sumL vs x (natKinds (Kn &&& rn) (k + 1)) = Sk + y from Hsy.out (by rw [Hbitr.out,hKb,hrb];rfl))
     clear hrb
     cases hsb : sn.testBit k with
     | false =>
      have HK3:=Lib.hid (Hrw.out false hsb)
      have Hrun:=Lib.hid (show rRun 3 m (k + 1) = (f,l,T) by rw [Hrs.out,rStep_no _ _ _ _ (by rw [Hbits.out,hKb,hsb];rfl)])
      clear hKb hsb
      go_wp2_with (go_at_call 102;first | ((with_reducible refine (HK1.out _).mono ?_);rintro e w' ⟨rfl,rfl⟩) | ((with_reducible refine (HK2.out _).mono ?_);rintro e w' ⟨rfl,rfl⟩) | ((with_reducible refine (HK3.out _).mono ?_);rintro e w' ⟨rfl,rfl⟩))
      go_roundw
      case rel => exact ⟨k + 1,by omega,by go_num,by rw [Hsum.out],by rw [Hrun.out],by rw [Hrun.out],by rw [Hrun.out];exact Hrep.out,Hmod.out⟩
      case measure => simp [Go.RowKit.intOf];omega
     | true =>
      have HK3:=Lib.hid (Hrw.out true hsb)
      have Hrun0:=Lib.hid (show rRun 3 m (k + 1) = (if f < 0 then (k : Int) else f,(k : Int),if (3 : Int) = 1 then T.set k (k + 8) else if (3 : Int) = 3 then (if 0 ≤ l then T.set l.toNat k else T) else T) by rw [Hrs.out,rStep_yes _ _ _ _ _ _ (by rw [Hbits.out,hKb,hsb];rfl)])
      clear hKb hsb
      rcases hends with ⟨rfl,rfl⟩ | ⟨hf0,hf8,hl0,hl8⟩
      ·have Hrun:=Lib.hid (show rRun 3 m (k + 1) = ((k : Int),(k : Int),T) by rw [Hrun0.out];simp)
       go_wp2_with (go_at_call 102;first | ((with_reducible refine (HK1.out _).mono ?_);rintro e w' ⟨rfl,rfl⟩) | ((with_reducible refine (HK2.out _).mono ?_);rintro e w' ⟨rfl,rfl⟩) | ((with_reducible refine (HK3.out _).mono ?_);rintro e w' ⟨rfl,rfl⟩))
       go_roundw
       case rel => exact ⟨k + 1,by omega,by go_num,by rw [Hsum.out],by rw [Hrun.out],by rw [Hrun.out],by rw [Hrun.out];exact Hrep.out,Hmod.out⟩
       case measure => simp [Go.RowKit.intOf];omega
      ·obtain ⟨ln,rfl⟩:=Int.eq_ofNat_of_zero_le hl0
       have Hrun:=Lib.hid (show rRun 3 m (k + 1) = (f,(k : Int),T.set ln k) by rw [Hrun0.out];simp;omega)
       have hln : ln < 8:=by omega
       have om:=Hrep.out.v (k:=ln) (by rw [List.length_map,HTl.out];exact hln)
       have fm:=Hrep.out.free (1 + ln)
       have hfin : RepBt (wr.setCell ⟨w1.heap.size,1 + ln,none⟩ (.int .i64 y)) w1.heap.size (Kn : Int) ((T.set ln k).map (srcV vs x S)):=by
        rw [List.map_set,show srcV vs x S k = y by rw [← Hvd.out];unfold srcV;rw [if_pos hlt]]
        exact Hrep.out.set ln _
       generalize (T.map (srcV vs x S))[ln]'(by rw [List.length_map,HTl.out];exact hln) = old at om
       have HFin:=Lib.hid hfin
       clear hfin
       go_wp2_with (go_at_call 102;first | ((with_reducible refine (HK1.out _).mono ?_);rintro e w' ⟨rfl,rfl⟩) | ((with_reducible refine (HK2.out _).mono ?_);rintro e w' ⟨rfl,rfl⟩) | ((with_reducible refine (HK3.out _).mono ?_);rintro e w' ⟨rfl,rfl⟩))
       go_roundw
       case rel => exact ⟨k + 1,by omega,by go_num,by rw [Hsum.out],by rw [Hrun.out],by rw [Hrun.out],by rw [Hrun.out];exact HFin.out,Hmod.out.setCell (.inl (by simp)) _⟩
       case measure => simp [Go.RowKit.intOf];omega
  ·obtain rfl : k = 8:=by omega
   rw [← HSe.out]
   rw [show ((8 : Nat) : Int) = 8 from rfl]
   clear hlt c0
   have hT0l : (rEnd 3 (rRun 3 m 8)).length = 8:=by unfold rEnd;split <;> simpa using hTl
   obtain ⟨Hrep,Hmod,HTl⟩:=hid3 hrep hmod hTl
   clear hrep hmod hTl
   have hre : rEnd 3 (rRun 3 m 8) = rEnd 3 ((rRun 3 m 8).1,(rRun 3 m 8).2.1,(rRun 3 m 8).2.2):=rfl
   generalize hst : rRun 3 m 8 = st at *
   obtain ⟨f,l,T⟩:=st
   simp only at hends Hrep HTl
   have Hst:=Lib.hid hst
   clear hst hre
   have hTg : ∀ j,j < 8 → vs.getD j 0 = vs.getD j 0:=fun _ _ => rfl
   clear hTg
   rcases hends with ⟨rfl,rfl⟩ | ⟨hf0,hf8,hl0,hl8⟩
   ·have hT0 : rEnd 3 (-1,-1,T) = T:=by unfold rEnd;simp
    have HRep0:=Lib.hid (show RepBt wr w1.heap.size (Kn : Int) ((sRun 3 m (rEnd 3 (-1,-1,T)) 0).map (srcV vs x S)) by rw [hT0];exact Hrep.out)
    have HMod0:=Lib.hid Hmod.out
    clear hT0
    obtain ⟨T0,hT0e⟩ : ∃ T0,T0 = rEnd 3 (-1,-1,T):=⟨_,rfl⟩
    rw [← hT0e] at HRep0 hT0l
    have HT0:=Lib.hid hT0e.symm
    clear hT0e
    go_wp2
    have HT0l:=Lib.hid hT0l
    clear hT0l
    go_loopw [91] (fun i wr => ∃ k : Nat,k ≤ 8 ∧ i = .int .i64 k ∧ RepBt wr w1.heap.size (Kn : Int) ((sRun 3 m T0 k).map (srcV vs x S)) ∧ Mod [w1.heap.size] w3 wr) (fun i _ => 8 - (Go.RowKit.intOf i).toNat)
    case atStart => exact ⟨0,by omega,rfl,HRep0.out,HMod0.out⟩
    case round =>
     obtain ⟨k,hk,rfl,hrep,hmod⟩:=hrel
     have hsz':=hmod.size
     have hBt:=HBt.out.mod hmod (by simp;omega)
     have k33:=hmod.keep K33.out (by simp;omega)
     have s2:=blk_cell k33 2
     have s3:=blk_cell k33 3
     have s4:=blk_cell k33 4
     have s5:=blk_cell k33 5
     have c0:=hBt.k
     simp only [eA,eZ,eS] at s2 s3 s4 s5
     have lo:=hrep.lt
     have hTl:=sRun_len 3 m T0 HT0l.out k
     by_cases hlt : k < 8
     ·have Hss:=Lib.hid (show sRun 3 m T0 (k + 1) = sRun 3 m T0 k by rw [sRun_succ];unfold sStep;simp)
      obtain ⟨Hrep,Hmod⟩:=hid2 hrep hmod
      clear hrep hmod hBt k33 hTl
      go_wp2
      go_roundw
      case rel => exact ⟨k + 1,by omega,by go_num,by rw [Hss.out];exact Hrep.out,Hmod.out⟩
      case measure => simp [Go.RowKit.intOf];omega
     ·obtain rfl : k = 8:=by omega
      have hk4:=hmod.keep K34.out (by simp;omega)
      have hbel:=HB3.out.trans (hmod.toBelow (B:=w.heap.size) (by simp;omega) (by omega))
      obtain ⟨rs,hrs⟩ : ∃ rs,rs = (sRun 3 m T0 8).map (srcV vs x S):=⟨_,rfl⟩
      have hrl : rs.length = 8:=by rw [hrs,List.length_map,hTl]
      rw [← hrs] at hrep
      have HRes:=Lib.hid (show (sRun 3 (Kn &&& sn) (rEnd 3 (rRun 3 (Kn &&& sn) 8)) 8).map (srcV [a0,a1,a2,a3,a4,a5,a6,a7] x (sumL [a0,a1,a2,a3,a4,a5,a6,a7] x (natKinds (Kn &&& rn) 8))) = rs by rw [Hme.out,← Hvs.out,← HSe.out,Hst.out,HT0.out];exact hrs.symm)
      obtain ⟨HRep,HK4,HBel⟩:=hid3 hrep hk4 hbel
      clear hrs hTl hrep hk4 hbel hmod s2 s3 s4 s5 c0 k33 hBt
      match rs,hrl with
      | [b0,b1,b2,b3,b4,b5,b6,b7],_ =>
       have hr0 : wr.heap[w1.heap.size]? = some (.cells #[.int .i64 (Kn : Int),.int .i64 b0,.int .i64 b1,.int .i64 b2,.int .i64 b3,.int .i64 b4,.int .i64 b5,.int .i64 b6,.int .i64 b7] 50 (0,0)):=HRep.out
       have c0:=blk_cell hr0 0
       have c1:=blk_cell hr0 1
       have c2:=blk_cell hr0 2
       have c3:=blk_cell hr0 3
       have c4:=blk_cell hr0 4
       have c5:=blk_cell hr0 5
       have c6:=blk_cell hr0 6
       have c7:=blk_cell hr0 7
       have c8:=blk_cell hr0 8
       have z0:=blk_cell HK4.out 0
       have z1:=blk_cell HK4.out 1
       have z2:=blk_cell HK4.out 2
       have z3:=blk_cell HK4.out 3
       have z4:=blk_cell HK4.out 4
       have z5:=blk_cell HK4.out 5
       have z6:=blk_cell HK4.out 6
       have z7:=blk_cell HK4.out 7
       have z8:=blk_cell HK4.out 8
       simp only [eA,eZ,eS] at c0 z0 c1 z1 c2 z2 c3 z3 c4 z4 c5 z5 c6 z6 c7 z7 c8 z8
       have f0:=blk_free HK4.out 0
       have f1:=blk_free HK4.out 1
       have f2:=blk_free HK4.out 2
       have f3:=blk_free HK4.out 3
       have f4:=blk_free HK4.out 4
       have f5:=blk_free HK4.out 5
       have f6:=blk_free HK4.out 6
       have f7:=blk_free HK4.out 7
       have f8:=blk_free HK4.out 8
       have lr:=blk_lt hr0
       have l4:=blk_lt HK4.out
       clear hr0
       go_wp2
       refine bodyPost_ret (v:=.agg #[.int .i64 (Kn : Int),.int .i64 b0,.int .i64 b1,.int .i64 b2,.int .i64 b3,.int .i64 b4,.int .i64 b5,.int .i64 b6,.int .i64 b7]) (by unfold results;try go_simp) rfl ?_
       refine ⟨by rw [HRes.out];rfl,?_⟩
       refine Mod.toBelow (F:=[]) ?_ (by simp) (Nat.le_refl _)
       repeat (refine Mod.setCell ?_ (.inr (by simp only;omega)) _)
       exact Mod.ofBelow HBel.out
   ·obtain ⟨fn,rfl⟩:=Int.eq_ofNat_of_zero_le hf0
    obtain ⟨ln,rfl⟩:=Int.eq_ofNat_of_zero_le hl0
    have hln : ln < 8:=by omega
    have hfn : fn < 8:=by omega
    have hT0 : rEnd 3 ((fn : Int),(ln : Int),T) = T.set ln fn:=by unfold rEnd;simp
    have hfv : fn < vs.length:=by rw [Hvl.out];exact hfn
    have cf:=hBt.v hfv
    have hfd : vs.getD fn 0 = vs[fn]:=by rw [List.getD_eq_getElem?_getD,List.getElem?_eq_getElem hfv];rfl
    generalize vs[fn] = y at *
    have om:=Hrep.out.v (k:=ln) (by rw [List.length_map,HTl.out];exact hln)
    have fm:=Hrep.out.free (1 + ln)
    have hfin : RepBt (wr.setCell ⟨w1.heap.size,1 + ln,none⟩ (.int .i64 y)) w1.heap.size (Kn : Int) ((sRun 3 m (rEnd 3 ((fn : Int),(ln : Int),T)) 0).map (srcV vs x S)):=by
     rw [hT0]
     show RepBt _ _ _ ((T.set ln fn).map (srcV vs x S))
     rw [List.map_set,show srcV vs x S fn = y by rw [← hfd];unfold srcV;rw [if_pos hfn]]
     exact Hrep.out.set ln _
    generalize (T.map (srcV vs x S))[ln]'(by rw [List.length_map,HTl.out];exact hln) = old at om
    have HRep0:=Lib.hid hfin
    have HMod0:=Lib.hid (Hmod.out.setCell (p:=⟨w1.heap.size,1 + ln,none⟩) (.inl (by simp)) (.int .i64 y))
    clear hT0 hfin hfd
    obtain ⟨T0,hT0e⟩ : ∃ T0,T0 = rEnd 3 ((fn : Int),(ln : Int),T):=⟨_,rfl⟩
    rw [← hT0e] at HRep0 hT0l
    have HT0:=Lib.hid hT0e.symm
    clear hT0e
    go_wp2
    have HT0l:=Lib.hid hT0l
    clear hT0l
    go_loopw [91] (fun i wr => ∃ k : Nat,k ≤ 8 ∧ i = .int .i64 k ∧ RepBt wr w1.heap.size (Kn : Int) ((sRun 3 m T0 k).map (srcV vs x S)) ∧ Mod [w1.heap.size] w3 wr) (fun i _ => 8 - (Go.RowKit.intOf i).toNat)
    case atStart => exact ⟨0,by omega,rfl,HRep0.out,HMod0.out⟩
    case round =>
     obtain ⟨k,hk,rfl,hrep,hmod⟩:=hrel
     have hsz':=hmod.size
     have hBt:=HBt.out.mod hmod (by simp;omega)
     have k33:=hmod.keep K33.out (by simp;omega)
     have s2:=blk_cell k33 2
     have s3:=blk_cell k33 3
     have s4:=blk_cell k33 4
     have s5:=blk_cell k33 5
     have c0:=hBt.k
     simp only [eA,eZ,eS] at s2 s3 s4 s5
     have lo:=hrep.lt
     have hTl:=sRun_len 3 m T0 HT0l.out k
     by_cases hlt : k < 8
     ·have Hss:=Lib.hid (show sRun 3 m T0 (k + 1) = sRun 3 m T0 k by rw [sRun_succ];unfold sStep;simp)
      obtain ⟨Hrep,Hmod⟩:=hid2 hrep hmod
      clear hrep hmod hBt k33 hTl
      go_wp2
      go_roundw
      case rel => exact ⟨k + 1,by omega,by go_num,by rw [Hss.out];exact Hrep.out,Hmod.out⟩
      case measure => simp [Go.RowKit.intOf];omega
     ·obtain rfl : k = 8:=by omega
      have hk4:=hmod.keep K34.out (by simp;omega)
      have hbel:=HB3.out.trans (hmod.toBelow (B:=w.heap.size) (by simp;omega) (by omega))
      obtain ⟨rs,hrs⟩ : ∃ rs,rs = (sRun 3 m T0 8).map (srcV vs x S):=⟨_,rfl⟩
      have hrl : rs.length = 8:=by rw [hrs,List.length_map,hTl]
      rw [← hrs] at hrep
      have HRes:=Lib.hid (show (sRun 3 (Kn &&& sn) (rEnd 3 (rRun 3 (Kn &&& sn) 8)) 8).map (srcV [a0,a1,a2,a3,a4,a5,a6,a7] x (sumL [a0,a1,a2,a3,a4,a5,a6,a7] x (natKinds (Kn &&& rn) 8))) = rs by rw [Hme.out,← Hvs.out,← HSe.out,Hst.out,HT0.out];exact hrs.symm)
      obtain ⟨HRep,HK4,HBel⟩:=hid3 hrep hk4 hbel
      clear hrs hTl hrep hk4 hbel hmod s2 s3 s4 s5 c0 k33 hBt
      match rs,hrl with
      | [b0,b1,b2,b3,b4,b5,b6,b7],_ =>
       have hr0 : wr.heap[w1.heap.size]? = some (.cells #[.int .i64 (Kn : Int),.int .i64 b0,.int .i64 b1,.int .i64 b2,.int .i64 b3,.int .i64 b4,.int .i64 b5,.int .i64 b6,.int .i64 b7] 50 (0,0)):=HRep.out
       have c0:=blk_cell hr0 0
       have c1:=blk_cell hr0 1
       have c2:=blk_cell hr0 2
       have c3:=blk_cell hr0 3
       have c4:=blk_cell hr0 4
       have c5:=blk_cell hr0 5
       have c6:=blk_cell hr0 6
       have c7:=blk_cell hr0 7
       have c8:=blk_cell hr0 8
       have z0:=blk_cell HK4.out 0
       have z1:=blk_cell HK4.out 1
       have z2:=blk_cell HK4.out 2
       have z3:=blk_cell HK4.out 3
       have z4:=blk_cell HK4.out 4
       have z5:=blk_cell HK4.out 5
       have z6:=blk_cell HK4.out 6
       have z7:=blk_cell HK4.out 7
       have z8:=blk_cell HK4.out 8
       simp only [eA,eZ,eS] at c0 z0 c1 z1 c2 z2 c3 z3 c4 z4 c5 z5 c6 z6 c7 z7 c8 z8
       have f0:=blk_free HK4.out 0
       have f1:=blk_free HK4.out 1
       have f2:=blk_free HK4.out 2
       have f3:=blk_free HK4.out 3
       have f4:=blk_free HK4.out 4
       have f5:=blk_free HK4.out 5
       have f6:=blk_free HK4.out 6
       have f7:=blk_free HK4.out 7
       have f8:=blk_free HK4.out 8
       have lr:=blk_lt hr0
       have l4:=blk_lt HK4.out
       clear hr0
       go_wp2
       refine bodyPost_ret (v:=.agg #[.int .i64 (Kn : Int),.int .i64 b0,.int .i64 b1,.int .i64 b2,.int .i64 b3,.int .i64 b4,.int .i64 b5,.int .i64 b6,.int .i64 b7]) (by unfold results;try go_simp) rfl ?_
       refine ⟨by rw [HRes.out];rfl,?_⟩
       refine Mod.toBelow (F:=[]) ?_ (by simp) (Nat.le_refl _)
       repeat (refine Mod.setCell ?_ (.inr (by simp only;omega)) _)
       exact Mod.ofBelow HBel.out
set_option maxRecDepth 20000 in
set_option maxHeartbeats 4000000 in
theorem rstep_no (K a0 a1 a2 a3 a4 a5 a6 a7 n t a r s d x : Int) (w : World) (hn : InR n) (hm : matchesB K n t a = false) :
  Calls Tryz.prog 74 #[.agg #[.int .i64 K,.int .i64 a0,.int .i64 a1,.int .i64 a2,.int .i64 a3,.int .i64 a4,.int .i64 a5,.int .i64 a6,.int .i64 a7],.agg #[.int .i64 n,.int .i64 t,.int .i64 a,.int .i64 r,.int .i64 s,.int .i64 d,.int .i64 x]] w fun e w' => e = .returned (btV K [a0,a1,a2,a3,a4,a5,a6,a7]) ∧ Below w.heap.size w w':=by
 have h1:=fun w => refMatches_any K n t a hn w
 rw [hm] at h1
 have H1:=Lib.hid h1
 clear h1 hm hn
 go_enter Tryz.func74,Tryz.ntmps74
 go_wp2_with fail
 refine (H1.out _).mono ?_
 rintro e w1 ⟨rfl,hb1⟩
 obtain ⟨k2,k3,k4,hbb,hz2⟩:=do_boxes hb1
 have HB:=Lib.hid hbb
 have c0:=blk_cell k2 0
 have c1:=blk_cell k2 1
 have c2:=blk_cell k2 2
 have c3:=blk_cell k2 3
 have c4:=blk_cell k2 4
 have c5:=blk_cell k2 5
 have c6:=blk_cell k2 6
 have c7:=blk_cell k2 7
 have c8:=blk_cell k2 8
 have z0:=blk_cell k4 0
 have z1:=blk_cell k4 1
 have z2:=blk_cell k4 2
 have z3:=blk_cell k4 3
 have z4:=blk_cell k4 4
 have z5:=blk_cell k4 5
 have z6:=blk_cell k4 6
 have z7:=blk_cell k4 7
 have z8:=blk_cell k4 8
 simp only [eA,eZ,eS] at c0 z0 c1 z1 c2 z2 c3 z3 c4 z4 c5 z5 c6 z6 c7 z7 c8 z8
 have f0:=blk_free k4 0
 have f1:=blk_free k4 1
 have f2:=blk_free k4 2
 have f3:=blk_free k4 3
 have f4:=blk_free k4 4
 have f5:=blk_free k4 5
 have f6:=blk_free k4 6
 have f7:=blk_free k4 7
 have f8:=blk_free k4 8
 have l2:=blk_lt k2
 have l4:=blk_lt k4
 clear k2 k3 k4 hbb hb1 H1
 go_wp2
 refine bodyPost_ret (v:=.agg #[.int .i64 K,.int .i64 a0,.int .i64 a1,.int .i64 a2,.int .i64 a3,.int .i64 a4,.int .i64 a5,.int .i64 a6,.int .i64 a7]) (by unfold results;try go_simp) rfl ?_
 refine ⟨rfl,Mod.toBelow (F:=[]) ?_ (by simp) (Nat.le_refl _)⟩
 repeat (refine Mod.setCell ?_ (.inr (by simp only;omega)) _)
 exact Mod.ofBelow HB.out
end Go.Proofs.YtehjfmjibiafdaaGreat
namespace Go.Proofs.YtehjfmjibiafdaaGreat
open Go.ChangeShapes Go.WideShapes Go.ChangeAt Go.RowKit
attribute [local go_sem] AllFrom.cons_eq AllFrom.nil_eq putL_nil putL_cons wantedL_none wantedL_some OpGoalM YieldsJ
theorem sysE_ok {n t a r s d x : Int} (h : sysE n t a r s d x = 0) : isSetB r = true ∧ isSetB s = true ∧ (d = 1 ∨ d = 2 ∨ d = 3) ∧ -1000000 ≤ x ∧ x ≤ 1000000:=by
 unfold sysE at h
 repeat' split at h
 all_goals first | (exfalso;omega) | skip
 all_goals simp_all
 all_goals omega
theorem beastE_ok {K : Int} {vs : List Int} (h : beastE K vs = 0) : isSetB K = true ∧ ∀ v ∈ vs,-1000000000 ≤ v ∧ v ≤ 1000000000:=by
 unfold beastE at h
 split at h
 ·next hK =>
  refine ⟨hK,?_⟩
  have : ∀ (l : List Int) (k : Nat),beastGo K k l = 0 → ∀ v ∈ l,-1000000000 ≤ v ∧ v ≤ 1000000000:=by
   intro l
   induction l with
   | nil => intro k _ v hv;cases hv
   | cons y l ih =>
    intro k hk v hv
    unfold beastGo at hk
    split at hk
    ·cases hk
    ·split at hk
     ·cases hk
     ·rcases List.mem_cons.1 hv with rfl | hv
      ·omega
      ·exact ih _ hk v hv
  exact this vs 0 h
 ·cases h
theorem steps_same (d : Int) (hd : d = 1 ∨ d = 2 ∨ d = 3) (m : Nat) (hm : m < 256) : pRun d (natKinds m 8) (natKinds m 8).length = sRun d m (rEnd d (rRun d m 8)) 8:=by
 rcases hd with rfl | rfl | rfl
 ·exact run_same1 ⟨m,hm⟩
 ·exact run_same2 ⟨m,hm⟩
 ·exact run_same3 ⟨m,hm⟩
end Go.Proofs.YtehjfmjibiafdaaGreat
namespace Go.Proofs.YtehjfmjibiafdaaGreat
open Go
abbrev Sl:=List (Int × Bool)
def freeB (x : Int × Bool) : Bool:=!x.2 && decide (x.1 < 1000000)
def firstI {α : Type} (p : α → Bool) (l : List α) : Int:=match l.findIdx? p with | some k => (k : Int) | none => -1
theorem fi_some {α : Type} {p : α → Bool} {l : List α} {k : Nat} (hk : k < l.length) (hp : p l[k] = true) (hn : ∀ j (h : j < k),p (l[j]'(by omega)) = false) : l.findIdx? p = some k:=by
 rw [List.findIdx?_eq_some_iff_getElem]
 exact ⟨hk,hp,fun j hj => by simp [hn j hj]⟩
theorem fi_none {α : Type} {p : α → Bool} {l : List α} (h : ∀ j (hj : j < l.length),p l[j] = false) : l.findIdx? p = none:=by
 rw [List.findIdx?_eq_none_iff]
 intro x hx
 obtain ⟨j,hj,rfl⟩:=List.mem_iff_getElem.1 hx
 exact h j hj
theorem fi_lt {α : Type} {p : α → Bool} {l : List α} {k : Nat} (h : l.findIdx? p = some k) : ∃ hk : k < l.length,p l[k] = true:=by
 rw [List.findIdx?_eq_some_iff_getElem] at h
 exact ⟨h.1,h.2.1⟩
theorem firstI_some {α : Type} {p : α → Bool} {l : List α} {k : Nat} (h : l.findIdx? p = some k) : firstI p l = k:=by unfold firstI;rw [h]
theorem firstI_none {α : Type} {p : α → Bool} {l : List α} (h : l.findIdx? p = none) : firstI p l = -1:=by unfold firstI;rw [h]
def takeL (l : Sl) : Sl:=match l.findIdx? freeB with
 | some k => l.set k ((l.getD k (0,false)).1,true)
 | none => if l.length = 60 then l else l ++ [(0,true)]
def takeK (l : Sl) : Int:=match l.findIdx? freeB with
 | some k => k
 | none => if l.length = 60 then 0 else l.length
def takeG (l : Sl) : Int:=match l.findIdx? freeB with
 | some k => (l.getD k (0,false)).1
 | none => 0
def takeE (l : Sl) : Int:=match l.findIdx? freeB with
 | some _ => 0
 | none => if l.length = 60 then 2 else 0
def liveB (l : Sl) (s g : Int) : Bool:=decide (0 ≤ s) && (match l[s.toNat]? with | some x => x.2 && decide (x.1 = g) | none => false)
def freeL (l : Sl) (s g : Int) : Sl:=if liveB l s g = true then l.set s.toNat (g + 1,false) else l
def freeE (l : Sl) (s g : Int) : Int:=if liveB l s g = true then 0 else 7
def allFrom : Nat → Sl → List (Int × Int)
 | _,[] => []
 | k,x :: l => (if x.2 = true then [((k : Int),x.1)] else []) ++ allFrom (k + 1) l
def allS (l : Sl) : List (Int × Int):=allFrom 0 l
def gensS (l : Sl) : List Int:=l.map (·.1)
def livesS (l : Sl) : List Bool:=l.map (·.2)
theorem allFrom_append (k : Nat) (a b : Sl) : allFrom k (a ++ b) = allFrom k a ++ allFrom (k + a.length) b:=by
 induction a generalizing k with
 | nil => simp [allFrom]
 | cons x a ih => simp [allFrom,ih,Nat.add_assoc,Nat.add_comm 1]
theorem allS_take_succ (l : Sl) (k : Nat) (h : k < l.length) : allS (l.take (k + 1)) = allS (l.take k) ++ (if l[k].2 = true then [((k : Int),l[k].1)] else []):=by
 rw [take_succ_get l k h,allS,allFrom_append,allS]
 simp [allFrom,Nat.min_eq_left (Nat.le_of_lt h)]
theorem mem_allFrom (l : Sl) (k : Nat) (s g : Int) : (s,g) ∈ allFrom k l ↔ ∃ j : Nat,s = ((k + j : Nat) : Int) ∧ ∃ h : j < l.length,l[j].2 = true ∧ l[j].1 = g:=by
 induction l generalizing k with
 | nil => simp [allFrom]
 | cons x l ih =>
  rw [allFrom,List.mem_append,ih]
  constructor
  ·rintro (h | ⟨j,h1,h2,h3⟩)
   ·split at h
    ·rename_i hx
     simp only [List.mem_singleton,Prod.mk.injEq] at h
     exact ⟨0,by simpa using h.1,by simp,by simpa using hx,by simpa using h.2.symm⟩
    ·simp at h
   ·exact ⟨j + 1,by rw [h1];omega,by simpa using h2,by simpa using h3⟩
  ·rintro ⟨j,h1,h2,h3⟩
   cases j with
   | zero =>
    left
    simp only [List.getElem_cons_zero] at h3
    rw [if_pos h3.1]
    simp only [List.mem_singleton,Prod.mk.injEq]
    exact ⟨by simpa using h1,h3.2.symm⟩
   | succ j =>
    right
    exact ⟨j,by rw [h1];omega,by simpa using h2,by simpa using h3⟩
theorem liveB_iff (l : Sl) (s g : Int) : liveB l s g = true ↔ (s,g) ∈ allS l:=by
 rw [allS,mem_allFrom]
 unfold liveB
 constructor
 ·intro h
  rw [Bool.and_eq_true,decide_eq_true_eq] at h
  obtain ⟨h0,h1⟩:=h
  cases hx : l[s.toNat]? with
  | none => rw [hx] at h1;cases h1
  | some x =>
   rw [hx] at h1
   simp only [Bool.and_eq_true,decide_eq_true_eq] at h1
   obtain ⟨hl,he⟩:=List.getElem?_eq_some_iff.1 hx
   exact ⟨s.toNat,by omega,hl,by rw [he];exact h1.1,by rw [he];exact h1.2⟩
 ·rintro ⟨j,rfl,hj,h1,h2⟩
  rw [Bool.and_eq_true]
  refine ⟨by simp,?_⟩
  have : ((0 + j : Nat) : Int).toNat = j:=by omega
  rw [this,List.getElem?_eq_getElem hj]
  simp [h1,h2]
theorem hasB_all (l : Sl) (s g : Int) : hasB (allS l) (s,g) = liveB l s g:=by
 rw [Bool.eq_iff_iff,hasB_iff,liveB_iff]
theorem liveB_lt {l : Sl} {s g : Int} (h : liveB l s g = true) : 0 ≤ s ∧ ∃ hk : s.toNat < l.length,l[s.toNat] = (g,true):=by
 unfold liveB at h
 rw [Bool.and_eq_true,decide_eq_true_eq] at h
 obtain ⟨h0,h1⟩:=h
 cases hx : l[s.toNat]? with
 | none => rw [hx] at h1;cases h1
 | some x =>
  rw [hx] at h1
  simp only [Bool.and_eq_true,decide_eq_true_eq] at h1
  obtain ⟨hl,he⟩:=List.getElem?_eq_some_iff.1 hx
  exact ⟨h0,hl,by rw [he];exact Prod.ext h1.2 h1.1⟩
theorem allFrom_len (l : Sl) (k : Nat) : (allFrom k l).length ≤ l.length:=by
 induction l generalizing k with
 | nil => simp [allFrom]
 | cons x l ih =>
  have:=ih (k + 1)
  simp only [allFrom,List.length_append,List.length_cons]
  split
  ·simp only [List.length_cons,List.length_nil];omega
  ·simp only [List.length_nil];omega
theorem allS_len (l : Sl) : (allS l).length ≤ l.length:=allFrom_len l 0
def SlOk (l : Sl) : Prop:=l.length ≤ 60 ∧ ∀ x ∈ l,0 ≤ x.1 ∧ x.1 ≤ 1000000 ∧ (x.2 = true → x.1 < 1000000)
theorem slOk_nil : SlOk []:=⟨by simp,by simp⟩
theorem SlOk.at_ {l : Sl} (h : SlOk l) {k : Nat} (hk : k < l.length) : 0 ≤ l[k].1 ∧ l[k].1 ≤ 1000000 ∧ (l[k].2 = true → l[k].1 < 1000000):=h.2 _ (List.getElem_mem hk)
theorem SlOk.take {l : Sl} (h : SlOk l) : SlOk (takeL l):=by
 unfold takeL
 cases hf : l.findIdx? freeB with
 | some k =>
  obtain ⟨hk,hp⟩:=fi_lt hf
  refine ⟨by simpa using h.1,fun x hx => ?_⟩
  rcases List.mem_or_eq_of_mem_set hx with hx | rfl
  ·exact h.2 x hx
  ·have:=h.at_ hk
   simp only [freeB,Bool.and_eq_true,decide_eq_true_eq] at hp
   rw [List.getD_eq_getElem?_getD,List.getElem?_eq_getElem hk]
   simp only [Option.getD_some]
   exact ⟨this.1,this.2.1,fun _ => hp.2⟩
 | none =>
  simp only
  split
  ·exact h
  ·next hn =>
   refine ⟨by have:=h.1;simp;omega,fun x hx => ?_⟩
   rcases List.mem_append.1 hx with hx | hx
   ·exact h.2 x hx
   ·simp at hx;subst hx;exact ⟨by omega,by omega,fun _ => by omega⟩
theorem SlOk.free {l : Sl} (h : SlOk l) (s g : Int) : SlOk (freeL l s g):=by
 unfold freeL
 split
 ·next hl =>
  obtain ⟨h0,hk,he⟩:=liveB_lt hl
  have:=h.at_ hk
  rw [he] at this
  refine ⟨by simpa using h.1,fun x hx => ?_⟩
  rcases List.mem_or_eq_of_mem_set hx with hx | rfl
  ·exact h.2 x hx
  ·have h3:=this.2.2 rfl
   simp only at this h3
   exact ⟨by simp;omega,by simp;omega,fun h => by cases h⟩
 ·exact h
end Go.Proofs.YtehjfmjibiafdaaGreat
namespace Go.Proofs.YtehjfmjibiafdaaGreat
open Go Go.RowKit
section
variable {P : Program}
theorem run_load_flat (w : World) (ty : TypeId) (ad : Addr) (xs : List Value) (d : TypeDesc) (hu : P.underlying ty = some d) (hd : (match d with | .struct _ | .array _ _ => true | _ => false) = true)
  (hi : (P.info? ty).map (·.size) = some xs.length) (hc : ∀ j u,xs[j]? = some u → w.cell? (ad.add j) = some u) : (loadVar ty ad).run P w = .ok (.agg xs.toArray) w:=by
 have hl : (loadCells ad xs.length).run P w = .ok xs.toArray w:=run_loadCells_list (P:=P) w ad xs hc
 cases hq : P.info? ty with
 | none => simp [hq] at hi
 | some i =>
  have hs : i.size = xs.length:=by simpa [hq] using hi
  have hagg : (isAgg ty).run P w = .ok true w:=by
   unfold isAgg
   rw [Sem.run_bind,run_underlying hu w]
   cases d <;> simp_all
  simp [loadVar,Sem.run_bind,hagg,sizeOf,typeInfo,hq,hs,hl]
theorem run_op_load (ρ : Operand → Value) (o : Oper) (w : World) (ty : TypeId) (x : Operand) (ho : o.op = .load ty x) (ad : Addr) (hx : ρ x = .pointer (some ad)) (xs : List Value) (d : TypeDesc) (hu : P.underlying ty = some d)
  (hd : (match d with | .struct _ | .array _ _ => true | _ => false) = true) (hi : (P.info? ty).map (·.size) = some xs.length) (hc : ∀ j u,xs[j]? = some u → w.cell? (ad.add j) = some u) :
  (execOp ρ o).run P w = .ok (.value (.agg xs.toArray)) w:=by
 unfold execOp
 simp only [ho,hx,Instr.loadAt,Instr.sureAddr,Sem.run_bind,Sem.run_pure,Result.andThen_ok,run_load_flat w ty ad xs d hu hd hi hc]
theorem wpList_load_flat {ops : Array Oper} {rest : List Oper} {o : Oper} {a : Act} {w : World} {Q : Exit → Act → World → Prop} (hgd : o.guard = none) (ty : TypeId) (x : Operand) (ho : o.op = .load ty x)
  (ad : Addr) (hx : a.eval x = .pointer (some ad)) (xs : List Value) (d : TypeDesc) (hu : P.underlying ty = some d) (hd : (match d with | .struct _ | .array _ _ => true | _ => false) = true)
  (hi : (P.info? ty).map (·.size) = some xs.length) (hc : ∀ j u,xs[j]? = some u → w.cell? (ad.add j) = some u)
  (h : wpList P ops Q rest (a.put o.dst (.agg xs.toArray)) w) : wpList P ops Q (o :: rest) a w :=
 wpList_plain hgd fun K hK => by
  unfold Oper.wp
  rw [run_op_load a.eval o w ty x ho ad hx xs d hu hd hi hc,Oper.upon_value]
  exact hK _ _ h
end
theorem flat_get {α : Type} (f : α → List Int) (n : Nat) (hf : ∀ x,(f x).length = n) : ∀ (l : List α) (k : Nat) (hk : k < l.length) (j : Nat),j < n → (l.flatMap f)[k * n + j]? = (f l[k])[j]?
 | x :: l,0,_,j,hj => by
  simp only [List.flatMap_cons,Nat.zero_mul,Nat.zero_add,List.getElem_cons_zero]
  rw [List.getElem?_append_left (by rw [hf];exact hj)]
 | x :: l,k + 1,hk,j,hj => by
  simp only [List.flatMap_cons,List.getElem_cons_succ]
  rw [List.getElem?_append_right (by rw [hf,Nat.succ_mul];omega),hf,show (k + 1) * n + j - n = k * n + j by rw [Nat.succ_mul];omega]
  exact flat_get f n hf l k (by simpa using hk) j hj
theorem unflat {α : Type} (f : α → List Int) (k : Nat) (mk : ∀ zs : List Int,zs.length = k → ∃ x,f x = zs) : ∀ (n : Nat) (zs : List Int),zs.length = n * k → ∃ l : List α,l.length = n ∧ zs = l.flatMap f
 | 0,zs,h => ⟨[],rfl,List.eq_nil_of_length_eq_zero (by simpa using h)⟩
 | n + 1,zs,h => by
  rw [Nat.succ_mul] at h
  obtain ⟨x,hx⟩:=mk (zs.take k) (by rw [List.length_take];omega)
  obtain ⟨l,hl,hz⟩:=unflat f k mk n (zs.drop k) (by rw [List.length_drop];omega)
  exact ⟨x :: l,by simp [hl],by rw [List.flatMap_cons,hx,← hz,List.take_append_drop]⟩
theorem Lies.elem {α : Type} {f : α → List Int} {n : Nat} {w : World} {B : Nat} {A : Option Addr} {l : List α} (h : Lies w B A (ints (l.flatMap f))) (hf : ∀ x,(f x).length = n) (hn : 0 < n) {k : Nat} (hk : k < l.length) :
  ∃ a,A = some a ∧ a.block < B ∧ ∀ j u,(ints (f l[k]))[j]? = some u → w.cell? ((a.add (k * n)).add j) = some u:=by
 have hget : ∀ j,j < n → ∃ u,(ints (l.flatMap f))[k * n + j]? = some u ∧ (ints (f l[k]))[j]? = some u:=by
  intro j hj
  have h1:=flat_get f n hf l k hk j hj
  have h2 : (f l[k])[j]? = some ((f l[k])[j]'(by rw [hf];exact hj)):=List.getElem?_eq_getElem _
  refine ⟨.int .i64 ((f l[k])[j]'(by rw [hf];exact hj)),?_,?_⟩
  ·rw [ints,List.getElem?_map,h1,h2];rfl
  ·rw [ints,List.getElem?_map,h2];rfl
 obtain ⟨u0,h0,_⟩:=hget 0 hn
 obtain ⟨a,rfl,hb,_⟩:=h _ u0 h0
 refine ⟨a,rfl,hb,fun j u hu => ?_⟩
 have hj : j < n:=by
  rcases Nat.lt_or_ge j n with h | h
  ·exact h
  ·rw [List.getElem?_eq_none (by rw [ints_length,hf];exact h)] at hu;cases hu
 obtain ⟨u',h1,h2⟩:=hget j hj
 rw [h2] at hu
 cases hu
 obtain ⟨a',e,_,hc⟩:=h _ _ h1
 cases e
 rw [add_add_]
 exact hc
end Go.Proofs.YtehjfmjibiafdaaGreat
