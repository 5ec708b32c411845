import Derived.Test.YtfdillpofciicaaGreatDoorTopSavedJ16
set_option linter.unusedVariables false
set_option linter.unusedSimpArgs false
/- A part of the proof that TopSaved returns true. -/
namespace Go.Proofs.YtfdillpofciicaaGreatDoor
open Go Go.RowKit
attribute [local go_sem] AllFrom.cons_eq AllFrom.nil_eq putF_nil putF_cons wantedL_none wantedL_some OpGoalT OpGoalV OpGoalQ OpGoalA OpGoalK YieldsR preF_nil preF_cons
theorem and_bit1 : ∀ m : Fin 256,∀ x : Fin 8,(bits .and .i64 ((m.val : Int) / 2 ^ x.val) 1 == 1) = m.val.testBit x.val:=by decide +kernel
theorem or_add8 : ∀ m : Fin 256,∀ x : Fin 8,m.val.testBit x.val = false → bits .or .i64 (m.val : Int) (wrap64 (2 ^ x.val)) = (m.val : Int) + pw x.val:=by decide +kernel
theorem andnot_sub8 : ∀ m : Fin 256,∀ x : Fin 8,m.val.testBit x.val = true → bits .andNot .i64 (m.val : Int) (wrap64 (2 ^ x.val)) = (m.val : Int) - pw x.val:=by decide +kernel
theorem isKind_t (k : Int) (h0 : 0 ≤ k) (h1 : k < 8) (w : World) : Calls Tryz.prog 101 #[.int .i64 k] w fun e w' => e = .returned (.bool true) ∧ w = w':=by
 go_enter Tryz.func101,Tryz.ntmps101
 go_wp2
 go_ret
 exact ⟨rfl,rfl⟩
theorem isKind_f (k : Int) (h : k < 0 ∨ 7 < k) (w : World) : Calls Tryz.prog 101 #[.int .i64 k] w fun e w' => e = .returned (.bool false) ∧ w = w':=by
 rcases h with h | h
 ·have h1 : ¬ 0 ≤ k:=by omega
  have h2 : decide (0 ≤ k) = false:=by simpa using h1
  clear h
  go_enter Tryz.func101,Tryz.ntmps101
  go_wp2
  go_ret
  exact ⟨rfl,rfl⟩
 ·have h1 : 0 ≤ k:=by omega
  have h2 : ¬ k < 8:=by omega
  have h3 : decide (k < 8) = false:=by simpa using h2
  clear h
  go_enter Tryz.func101,Tryz.ntmps101
  go_wp2
  go_ret
  exact ⟨rfl,rfl⟩
theorem btSet_cells : ∀ (x : Rw) (j : Nat),j < 8 → ∀ (K n : Int),((btC x.2).toArray.setIfInBounds 0 (.int .i64 K)).setIfInBounds (1 + j) (.int .i64 n) = (btC (rwSet (x.1,(K,x.2.2)) j n).2).toArray
 | (h,K0,a0,a1,a2,a3,a4,a5,a6,a7),0,_,K,n => rfl
 | (h,K0,a0,a1,a2,a3,a4,a5,a6,a7),1,_,K,n => rfl
 | (h,K0,a0,a1,a2,a3,a4,a5,a6,a7),2,_,K,n => rfl
 | (h,K0,a0,a1,a2,a3,a4,a5,a6,a7),3,_,K,n => rfl
 | (h,K0,a0,a1,a2,a3,a4,a5,a6,a7),4,_,K,n => rfl
 | (h,K0,a0,a1,a2,a3,a4,a5,a6,a7),5,_,K,n => rfl
 | (h,K0,a0,a1,a2,a3,a4,a5,a6,a7),6,_,K,n => rfl
 | (h,K0,a0,a1,a2,a3,a4,a5,a6,a7),7,_,K,n => rfl
 | _,k + 8,h,_,_ => by omega
theorem btC_get : ∀ (x : Rw) (j : Nat),j < 8 → ∀ K : Int,((btC x.2).toArray.setIfInBounds 0 (.int .i64 K))[1 + j]? = some (.int .i64 (valK j x.2))
 | (h,K0,a0,a1,a2,a3,a4,a5,a6,a7),0,_,K => rfl
 | (h,K0,a0,a1,a2,a3,a4,a5,a6,a7),1,_,K => rfl
 | (h,K0,a0,a1,a2,a3,a4,a5,a6,a7),2,_,K => rfl
 | (h,K0,a0,a1,a2,a3,a4,a5,a6,a7),3,_,K => rfl
 | (h,K0,a0,a1,a2,a3,a4,a5,a6,a7),4,_,K => rfl
 | (h,K0,a0,a1,a2,a3,a4,a5,a6,a7),5,_,K => rfl
 | (h,K0,a0,a1,a2,a3,a4,a5,a6,a7),6,_,K => rfl
 | (h,K0,a0,a1,a2,a3,a4,a5,a6,a7),7,_,K => rfl
 | _,k + 8,h,_ => by omega
section
variable {w : World} {p : Nat} {sl : Sl} {L : List Rw} {F : List Nat}
set_option maxRecDepth 20000 in
set_option maxHeartbeats 4000000 in
theorem wput_dead (h : RepW w p sl L F) (s g k n : Int) (hd : liveB sl s g = false) :
  Calls Tryz.prog 54 #[.pointer (some ⟨p,0,none⟩),.agg #[.int .i64 s,.int .i64 g],.int .i64 k,.int .i64 n] w (fun e w' => e = .returned (.int .i64 7) ∧ Below w.heap.size w w'):=by
 obtain ⟨w0,hw0,hb0,hz0,hs0⟩:=box1 w (.cells #[.int .i64 s,.int .i64 g] 47)
 obtain ⟨ps,mt,mp,tb,rw,pl,FS,Fs,c,hW,hC,hO,rfl⟩:=h
 have hW0:=hW.below hb0
 have e0:=blk_cell hW0.blk 0
 simp only [eA,eZ,eS] at e0
 have hpl:=blk_lt hW0.blk
 obtain ⟨q0,q1,ql⟩:=cells2 hz0
 have h1:=live_any ps sl FS s g w0.drew (hW0.below below_drew).sl
 rw [hd] at h1
 obtain ⟨H1,Hb0,Hs0⟩:=hid3 h1 hb0 hs0
 clear h1 hb0 hs0
 clear hz0 hW hW0 hC hO hd
 go_enter Tryz.func54,Tryz.ntmps54
 go_wp2_with fail
 clear hw0
 refine wp_planR 5 [0] [some 12,some 13,some 14,some 15,some 16,some 17,some 18,some 11] [[],[0],[0,1],[0,1,2],[],[0,1,2,3,4],[0,1,2,3,4,5],[0,1,2,3,4,5,6]] [0,1,2,3,4] mixed rfl (by kernel_rfl) (by decide) (by decide) rfl ?_
 iterate 5 apply Exists.intro
 refine ⟨rfl,?_,?_⟩
 ·simp only [tS,List.take_zero,AllFrom.cons_eq,AllFrom.nil_eq,OpGoalQ]
  refine ⟨?_,?_,?_,?_,?_,trivial⟩
  all_goals (intro σ hp;(try simp only [gZ,gS,mC,mN,preF_cons,preF_nil,isV,and_true] at hp);(first | (have hq : True:=hp;clear hq hp) | skip))
  all_goals (go_simp;exact ⟨rfl,rfl⟩)
 intro σ hp
 simp only [gZ,gS,mC,mN,preF_cons,preF_nil,isV,and_true] at hp
 simp only [dS,List.drop_zero]
 go_simp
 clear hp
 go_wp2_with fail
 refine H1.out.mono ?_
 rintro e w1 ⟨rfl,hb1⟩
 have hB:=Lib.hid (Hb0.out.trans ((below_drew.trans hb1).mono Hb0.out.size))
 clear hb1
 go_wp2_with fail
 refine ⟨rfl,?_⟩
 go_wp2
 go_ret
 exact ⟨rfl,hB.out⟩
set_option maxRecDepth 20000 in
set_option maxHeartbeats 4000000 in
theorem wdrop_dead (h : RepW w p sl L F) (s g k : Int) (hd : liveB sl s g = false) :
  Calls Tryz.prog 55 #[.pointer (some ⟨p,0,none⟩),.agg #[.int .i64 s,.int .i64 g],.int .i64 k] w (fun e w' => e = .returned (.int .i64 7) ∧ Below w.heap.size w w'):=by
 obtain ⟨w0,hw0,hb0,hz0,hs0⟩:=box1 w (.cells #[.int .i64 s,.int .i64 g] 47)
 obtain ⟨ps,mt,mp,tb,rw,pl,FS,Fs,c,hW,hC,hO,rfl⟩:=h
 have hW0:=hW.below hb0
 have e0:=blk_cell hW0.blk 0
 simp only [eA,eZ,eS] at e0
 have hpl:=blk_lt hW0.blk
 obtain ⟨q0,q1,ql⟩:=cells2 hz0
 have h1:=live_any ps sl FS s g w0.drew (hW0.below below_drew).sl
 rw [hd] at h1
 obtain ⟨H1,Hb0,Hs0⟩:=hid3 h1 hb0 hs0
 clear h1 hb0 hs0
 clear hz0 hW hW0 hC hO hd
 go_enter Tryz.func55,Tryz.ntmps55
 go_wp2_with fail
 clear hw0
 refine wp_planR 5 [0] [some 9,some 10,some 11,some 12,some 13,some 14,some 15,some 8] [[],[0],[0,1],[0,1,2],[],[0,1,2,3,4],[0,1,2,3,4,5],[0,1,2,3,4,5,6]] [0,1,2,3,4] mixed rfl (by kernel_rfl) (by decide) (by decide) rfl ?_
 iterate 5 apply Exists.intro
 refine ⟨rfl,?_,?_⟩
 ·simp only [tS,List.take_zero,AllFrom.cons_eq,AllFrom.nil_eq,OpGoalQ]
  refine ⟨?_,?_,?_,?_,?_,trivial⟩
  all_goals (intro σ hp;(try simp only [gZ,gS,mC,mN,preF_cons,preF_nil,isV,and_true] at hp);(first | (have hq : True:=hp;clear hq hp) | skip))
  all_goals (go_simp;exact ⟨rfl,rfl⟩)
 intro σ hp
 simp only [gZ,gS,mC,mN,preF_cons,preF_nil,isV,and_true] at hp
 simp only [dS,List.drop_zero]
 go_simp
 clear hp
 go_wp2_with fail
 refine H1.out.mono ?_
 rintro e w1 ⟨rfl,hb1⟩
 have hB:=Lib.hid (Hb0.out.trans ((below_drew.trans hb1).mono Hb0.out.size))
 clear hb1
 go_wp2_with fail
 refine ⟨rfl,?_⟩
 go_wp2
 go_ret
 exact ⟨rfl,hB.out⟩
set_option maxRecDepth 20000 in
set_option maxHeartbeats 4000000 in
theorem wput_bad (h : RepW w p sl L F) (s g k n : Int) (hd : liveB sl s g = true) (hp : putBad k n) :
  Calls Tryz.prog 54 #[.pointer (some ⟨p,0,none⟩),.agg #[.int .i64 s,.int .i64 g],.int .i64 k,.int .i64 n] w (fun e w' => e = .returned (.int .i64 1) ∧ Below w.heap.size w w'):=by
 obtain ⟨w0,hw0,hb0,hz0,hs0⟩:=box1 w (.cells #[.int .i64 s,.int .i64 g] 47)
 obtain ⟨ps,mt,mp,tb,rw,pl,FS,Fs,c,hW,hC,hO,rfl⟩:=h
 have hW0:=hW.below hb0
 have e0:=blk_cell hW0.blk 0
 simp only [eA,eZ,eS] at e0
 have hpl:=blk_lt hW0.blk
 obtain ⟨q0,q1,ql⟩:=cells2 hz0
 have h1:=live_any ps sl FS s g w0.drew (hW0.below below_drew).sl
 rw [hd] at h1
 obtain ⟨H1,Hb0,Hs0⟩:=hid3 h1 hb0 hs0
 clear h1 hb0 hs0
 clear hz0 hW hW0 hC hO hd
 by_cases hk : k < 0 ∨ 7 < k
 ·have HK:=Lib.hid (isKind_f k hk)
  clear hp hk
  go_enter Tryz.func54,Tryz.ntmps54
  go_wp2_with fail
  clear hw0
  refine wp_planR 5 [0] [some 12,some 13,some 14,some 15,some 16,some 17,some 18,some 11] [[],[0],[0,1],[0,1,2],[],[0,1,2,3,4],[0,1,2,3,4,5],[0,1,2,3,4,5,6]] [0,1,2,3,4] mixed rfl (by kernel_rfl) (by decide) (by decide) rfl ?_
  iterate 5 apply Exists.intro
  refine ⟨rfl,?_,?_⟩
  ·simp only [tS,List.take_zero,AllFrom.cons_eq,AllFrom.nil_eq,OpGoalQ]
   refine ⟨?_,?_,?_,?_,?_,trivial⟩
   all_goals (intro σ hp;(try simp only [gZ,gS,mC,mN,preF_cons,preF_nil,isV,and_true] at hp);(first | (have hq : True:=hp;clear hq hp) | skip))
   all_goals (go_simp;exact ⟨rfl,rfl⟩)
  intro σ hp
  simp only [gZ,gS,mC,mN,preF_cons,preF_nil,isV,and_true] at hp
  simp only [dS,List.drop_zero]
  go_simp
  clear hp
  go_wp2_with fail
  refine H1.out.mono ?_
  rintro e w1 ⟨rfl,hb1⟩
  have hB:=Lib.hid (Hb0.out.trans ((below_drew.trans hb1).mono Hb0.out.size))
  clear hb1
  go_wp2_with fail
  refine ⟨rfl,?_⟩
  go_wp2_with fail
  refine (HK.out _).mono ?_
  rintro e w2 ⟨rfl,rfl⟩
  go_wp2
  go_ret
  exact ⟨rfl,hB.out⟩
 ·have HK:=Lib.hid (isKind_t k (by omega) (by omega))
  unfold putBad at hp
  by_cases hn : n < -1000000000
  ·clear hp hk
   go_enter Tryz.func54,Tryz.ntmps54
   go_wp2_with fail
   clear hw0
   refine wp_planR 5 [0] [some 12,some 13,some 14,some 15,some 16,some 17,some 18,some 11] [[],[0],[0,1],[0,1,2],[],[0,1,2,3,4],[0,1,2,3,4,5],[0,1,2,3,4,5,6]] [0,1,2,3,4] mixed rfl (by kernel_rfl) (by decide) (by decide) rfl ?_
   iterate 5 apply Exists.intro
   refine ⟨rfl,?_,?_⟩
   ·simp only [tS,List.take_zero,AllFrom.cons_eq,AllFrom.nil_eq,OpGoalQ]
    refine ⟨?_,?_,?_,?_,?_,trivial⟩
    all_goals (intro σ hp;(try simp only [gZ,gS,mC,mN,preF_cons,preF_nil,isV,and_true] at hp);(first | (have hq : True:=hp;clear hq hp) | skip))
    all_goals (go_simp;exact ⟨rfl,rfl⟩)
   intro σ hp
   simp only [gZ,gS,mC,mN,preF_cons,preF_nil,isV,and_true] at hp
   simp only [dS,List.drop_zero]
   go_simp
   clear hp
   go_wp2_with fail
   refine H1.out.mono ?_
   rintro e w1 ⟨rfl,hb1⟩
   have hB:=Lib.hid (Hb0.out.trans ((below_drew.trans hb1).mono Hb0.out.size))
   clear hb1
   go_wp2_with fail
   refine ⟨rfl,?_⟩
   go_wp2_with fail
   refine (HK.out _).mono ?_
   rintro e w2 ⟨rfl,rfl⟩
   go_wp2
   go_ret
   exact ⟨rfl,hB.out⟩
  ·have hn2 : 1000000000 < n:=by omega
   have hn3 : decide (n < -1000000000) = false:=by simpa using hn
   clear hp hk hn
   go_enter Tryz.func54,Tryz.ntmps54
   go_wp2_with fail
   clear hw0
   refine wp_planR 5 [0] [some 12,some 13,some 14,some 15,some 16,some 17,some 18,some 11] [[],[0],[0,1],[0,1,2],[],[0,1,2,3,4],[0,1,2,3,4,5],[0,1,2,3,4,5,6]] [0,1,2,3,4] mixed rfl (by kernel_rfl) (by decide) (by decide) rfl ?_
   iterate 5 apply Exists.intro
   refine ⟨rfl,?_,?_⟩
   ·simp only [tS,List.take_zero,AllFrom.cons_eq,AllFrom.nil_eq,OpGoalQ]
    refine ⟨?_,?_,?_,?_,?_,trivial⟩
    all_goals (intro σ hp;(try simp only [gZ,gS,mC,mN,preF_cons,preF_nil,isV,and_true] at hp);(first | (have hq : True:=hp;clear hq hp) | skip))
    all_goals (go_simp;exact ⟨rfl,rfl⟩)
   intro σ hp
   simp only [gZ,gS,mC,mN,preF_cons,preF_nil,isV,and_true] at hp
   simp only [dS,List.drop_zero]
   go_simp
   clear hp
   go_wp2_with fail
   refine H1.out.mono ?_
   rintro e w1 ⟨rfl,hb1⟩
   have hB:=Lib.hid (Hb0.out.trans ((below_drew.trans hb1).mono Hb0.out.size))
   clear hb1
   go_wp2_with fail
   refine ⟨rfl,?_⟩
   go_wp2_with fail
   refine (HK.out _).mono ?_
   rintro e w2 ⟨rfl,rfl⟩
   go_wp2
   go_ret
   exact ⟨rfl,hB.out⟩
set_option maxRecDepth 20000 in
set_option maxHeartbeats 4000000 in
theorem wdrop_bad (h : RepW w p sl L F) (s g k : Int) (hd : liveB sl s g = true) (hp : k < 0 ∨ 7 < k) :
  Calls Tryz.prog 55 #[.pointer (some ⟨p,0,none⟩),.agg #[.int .i64 s,.int .i64 g],.int .i64 k] w (fun e w' => e = .returned (.int .i64 1) ∧ Below w.heap.size w w'):=by
 obtain ⟨w0,hw0,hb0,hz0,hs0⟩:=box1 w (.cells #[.int .i64 s,.int .i64 g] 47)
 obtain ⟨ps,mt,mp,tb,rw,pl,FS,Fs,c,hW,hC,hO,rfl⟩:=h
 have hW0:=hW.below hb0
 have e0:=blk_cell hW0.blk 0
 simp only [eA,eZ,eS] at e0
 have hpl:=blk_lt hW0.blk
 obtain ⟨q0,q1,ql⟩:=cells2 hz0
 have h1:=live_any ps sl FS s g w0.drew (hW0.below below_drew).sl
 rw [hd] at h1
 obtain ⟨H1,Hb0,Hs0⟩:=hid3 h1 hb0 hs0
 clear h1 hb0 hs0
 clear hz0 hW hW0 hC hO hd
 have HK:=Lib.hid (isKind_f k hp)
 clear hp
 go_enter Tryz.func55,Tryz.ntmps55
 go_wp2_with fail
 clear hw0
 refine wp_planR 5 [0] [some 9,some 10,some 11,some 12,some 13,some 14,some 15,some 8] [[],[0],[0,1],[0,1,2],[],[0,1,2,3,4],[0,1,2,3,4,5],[0,1,2,3,4,5,6]] [0,1,2,3,4] mixed rfl (by kernel_rfl) (by decide) (by decide) rfl ?_
 iterate 5 apply Exists.intro
 refine ⟨rfl,?_,?_⟩
 ·simp only [tS,List.take_zero,AllFrom.cons_eq,AllFrom.nil_eq,OpGoalQ]
  refine ⟨?_,?_,?_,?_,?_,trivial⟩
  all_goals (intro σ hp;(try simp only [gZ,gS,mC,mN,preF_cons,preF_nil,isV,and_true] at hp);(first | (have hq : True:=hp;clear hq hp) | skip))
  all_goals (go_simp;exact ⟨rfl,rfl⟩)
 intro σ hp
 simp only [gZ,gS,mC,mN,preF_cons,preF_nil,isV,and_true] at hp
 simp only [dS,List.drop_zero]
 go_simp
 clear hp
 go_wp2_with fail
 refine H1.out.mono ?_
 rintro e w1 ⟨rfl,hb1⟩
 have hB:=Lib.hid (Hb0.out.trans ((below_drew.trans hb1).mono Hb0.out.size))
 clear hb1
 go_wp2_with fail
 refine ⟨rfl,?_⟩
 go_wp2_with fail
 refine (HK.out _).mono ?_
 rintro e w2 ⟨rfl,rfl⟩
 go_wp2
 go_ret
 exact ⟨rfl,hB.out⟩
set_option maxRecDepth 20000 in
set_option maxHeartbeats 8000000 in
theorem wput_has (h : RepW w p sl L F) (s g n : Int) (j : Nat) (hj : j < 8) {i : Nat} (hi : idxL L (s,g) = some i) (hl0 : i < L.length) (hh : hasK L[i].2.1 j = true) (hp : ¬ putBad (j : Int) n) :
  Calls Tryz.prog 54 #[.pointer (some ⟨p,0,none⟩),.agg #[.int .i64 s,.int .i64 g],.int .i64 (j : Int),.int .i64 n] w (WRet p sl (L.set i (rwSet L[i] j n)) F w (.int .i64 0)):=by
 obtain ⟨hil,hie⟩:=idx_some hi
 obtain ⟨x,hx⟩ : ∃ x,L[i] = x:=⟨_,rfl⟩
 have hO:=h.ok
 have hxL : x ∈ L:=hx ▸ List.getElem_mem hil
 rw [hx] at hie hh
 try rw [hx]
 obtain ⟨kn,hkn,hK,-⟩:=(beastZ_iff _).1 (hO.be x hxL)
 obtain ⟨s1,hs60,e2⟩:=hO.slot hxL
 have hd : liveB sl s g = true:=(hO.live _ _).2 ⟨_,hxL,hie⟩
 obtain ⟨xh,xK,a0,a1,a2,a3,a4,a5,a6,a7⟩:=x
 simp only at hie hK e2 hh
 subst hie
 simp only at e2
 subst hK e2
 rw [hasK_nat kn j hkn] at hh
 have hbe:=hO.be _ hxL
 obtain ⟨w0,hw0,hb0,hz0,hs0⟩:=box1 w (.cells #[.int .i64 (s1 : Int),.int .i64 g] 47)
 have hFlt:=h.lt
 obtain ⟨ps,mt,mp,tb,rw,pl,FS,Fs,c,hW,hC,-,rfl⟩:=h
 obtain ⟨s0,kn0,i0,e1,hpm,hx0⟩:=hC.has _ hxL
 simp only at e1
 obtain rfl : s1 = s0:=by omega
 obtain ⟨hk,-⟩:=hC.pla _ _ _ hpm
 obtain ⟨-,e3,-⟩:=hC.row kn0 hk i0 _ hx0
 simp only at e3
 obtain rfl : kn = kn0:=by omega
 have hl : (rw kn).length ≤ L.length:=hC.len (fun _ h => h) hk
 have hl2:=hO.len
 obtain ⟨⟨k',b⟩,hkb,hk'⟩:=List.mem_map.1 hk
 simp only at hk'
 subst hk'
 have hs256 : s1 < 256:=by omega
 have hl3 : (rw k').length ≤ 1200000000000:=by omega
 have hW0:=hW.below hb0
 have e0:=blk_cell hW0.blk 0
 simp only [eA,eZ,eS] at e0
 have hpl:=blk_lt hW0.blk
 obtain ⟨q0,q1,ql⟩:=cells2 hz0
 have h1:=live_any ps sl FS (s1 : Int) g w0.drew (hW0.below below_drew).sl
 rw [hd] at h1
 have HK:=Lib.hid (isKind_t (j : Int) (by omega) (by omega))
 unfold putBad at hp
 have hn1 : ¬ n < -1000000000:=by omega
 have hn2 : ¬ 1000000000 < n:=by omega
 have hn0 : decide (n < -1000000000) = false:=by simpa using hn1
 have hn3 : decide (1000000000 < n) = false:=by simpa using hn2
 have hnn : ¬ (n < -1000000000 ∨ 1000000000 < n):=by omega
 have hbit:=and_bit1 ⟨k',hkn⟩ ⟨j,hj⟩
 simp only [] at hbit
 rw [hh] at hbit
 have hok:=hO.set hil (x':=rwSet (((s1 : Int),g),(k' : Int),a0,a1,a2,a3,a4,a5,a6,a7) j n) (by rw [hx];rfl) (by rw [← putR_has (by rw [hasK_nat k' j hkn];exact hh)];exact putR_ok hbe hj hnn)
 have hms:=hO.mem_set hil (x':=rwSet (((s1 : Int),g),(k' : Int),a0,a1,a2,a3,a4,a5,a6,a7) j n) (by rw [hx];rfl)
 rw [hx] at hms
 obtain ⟨Hp,Hnn,Hh,Hok,Hms⟩:=hid5 hp hnn hh hok hms
 clear hp hnn hh hok hms
 clear hn1 hn2
 have H1:=Lib.hid h1;have Hb0:=Lib.hid hb0;have Hs0:=Lib.hid hs0;have Hz0:=Lib.hid hz0;have HW0:=Lib.hid hW0;have HC:=Lib.hid hC;have HO:=Lib.hid hO;have Hpm:=Lib.hid hpm;have Hkb:=Lib.hid hkb;have Hkn:=Lib.hid hkn;have Hs256:=Lib.hid hs256;have Hl3:=Lib.hid hl3;have Hx0:=Lib.hid hx0;have Hk:=Lib.hid hk;have HFlt:=Lib.hid hFlt;have HxL:=Lib.hid hxL;have Hbe:=Lib.hid hbe;have Hx:=Lib.hid hx
 clear h1 hb0 hs0 hz0 hW0 hC hO hpm hkb hkn hs256 hl3 hx0 hk hFlt hxL hbe hx
 clear hW hd hl hl2 hs60 hi
 go_enter Tryz.func54,Tryz.ntmps54
 go_wp2_with fail
 clear hw0
 refine wp_planR 5 [0] [some 12,some 13,some 14,some 15,some 16,some 17,some 18,some 11] [[],[0],[0,1],[0,1,2],[],[0,1,2,3,4],[0,1,2,3,4,5],[0,1,2,3,4,5,6]] [0,1,2,3,4] mixed rfl (by kernel_rfl) (by decide) (by decide) rfl ?_
 iterate 5 apply Exists.intro
 refine ⟨rfl,?_,?_⟩
 ·simp only [tS,List.take_zero,AllFrom.cons_eq,AllFrom.nil_eq,OpGoalQ]
  refine ⟨?_,?_,?_,?_,?_,trivial⟩
  all_goals (intro σ hp;(try simp only [gZ,gS,mC,mN,preF_cons,preF_nil,isV,and_true] at hp);(first | (have hq : True:=hp;clear hq hp) | skip))
  all_goals (go_simp;exact ⟨rfl,rfl⟩)
 intro σ hp
 simp only [gZ,gS,mC,mN,preF_cons,preF_nil,isV,and_true] at hp
 simp only [dS,List.drop_zero]
 go_simp
 clear hp
 go_wp2_with fail
 refine H1.out.mono ?_
 rintro e w1 ⟨rfl,hb1⟩
 have hb01 : Below w0.heap.size w0 w1:=below_drew.trans hb1
 have hz0:=(Mod.ofBelow hb01).keep Hz0.out (by simp)
 have hW1:=HW0.out.below hb01
 clear q0 q1 ql e0 hpl
 obtain ⟨q0,q1,ql⟩:=cells2 hz0
 have e0:=blk_cell hW1.blk 2
 simp only [eA,eZ,eS] at e0
 have hpl:=blk_lt hW1.blk
 have hlk:=mi_in plPr_keys Tryz.underlying113 (hW1.below below_drew).pm Hs256.out Hpm.out false
 have hlk2:=mi_in plPr_keys Tryz.underlying113 (hW1.below ((Below.refl _ w1).alloc (Nat.le_refl _) (.cells #[.int .i64 0,.int .i64 0] 185)).drew).pm Hs256.out Hpm.out false
 simp only [plPr,Bool.false_eq_true,if_false] at hlk hlk2
 obtain ⟨w2,hw2⟩ : ∃ w2,(w1.alloc (.cells #[.int .i64 (k' : Int),.int .i64 (i0 : Int)] 185)).drew = w2:=⟨_,rfl⟩
 have hb12 : Below w1.heap.size w1 w2:=by rw [← hw2];exact ((Below.refl _ w1).alloc (Nat.le_refl _) _).drew
 have hu2 : w2.heap[w1.heap.size]? = some (.cells #[.int .i64 (k' : Int),.int .i64 (i0 : Int)] 185 (0,0)):=by rw [← hw2];exact blk_drew (heap_alloc_new w1 _)
 have hB02:=Hb0.out.trans ((hb01.trans (hb12.mono hb01.size)).mono Hb0.out.size)
 have hW2:=hW1.below hb12
 have hy0:=(Mod.ofBelow hb12).keep hz0 (by simp)
 have hsz : w0.heap.size ≤ w1.heap.size:=hb01.size
 obtain ⟨Hw2,Hu2,HB02,HW2,Hy0⟩:=hid5 hw2 hu2 hB02 hW2 hy0
 clear hw2 hu2 hB02 hW2 hy0
 clear hb1 hb01 hz0 hW1 hb12
 go_wp2_with fail
 refine ⟨rfl,?_⟩
 go_wp2_with fail
 refine (HK.out _).mono ?_
 rintro e w3 ⟨rfl,rfl⟩
 go_wp2_with fail
 refine wp_planA ((w1.alloc (.cells #[.int .i64 0,.int .i64 0] 185)).drew) 7 8 [0] [some 31,some 32,some 33,some 34,some 35,some 36,some 37,some 9,none] [[],[0],[0,1],[0,1,2],[],[4],[0,1,2,3,4,5],[],[0,1,2,3,4,5,6,7]] [0,1,2,3,4,5,6,7] mixed rfl (by kernel_rfl) (by decide) (by decide) (by decide) rfl ?_
 iterate 8 apply Exists.intro
 refine ⟨rfl,?_,?_⟩
 ·simp only [tS,List.take_zero,AllFrom.cons_eq,AllFrom.nil_eq,OpGoalA]
  refine ⟨?_,?_,?_,?_,?_,?_,?_,?_,trivial⟩
  all_goals (intro σ hp;(try simp only [gZ,gS,mC,mN,preF_cons,preF_nil,isV,and_true] at hp);(first | (have hq : True:=hp;clear hq hp) | skip))
  all_goals (go_simp;first | exact ⟨⟨rfl,rfl⟩,⟨rfl,rfl⟩⟩ | exact ⟨rfl,rfl⟩)
 intro σ hp
 simp only [gZ,gS,mC,mN,preF_cons,preF_nil,isV,and_true] at hp
 simp only [dS,List.drop_zero]
 go_simp
 clear hp
 go_wp2_with fail
 rw [Hw2.out]
 refine ⟨rfl,?_⟩
 clear hlk hlk2 e0 hpl q0 q1 ql
 have hu2:=Hu2.out
 obtain ⟨u0,u1,ul⟩:=cells2 hu2
 clear hu2
 have hW2d:=HW2.out.below below_drew
 have e0:=blk_cell hW2d.blk 1
 simp only [eA,eZ,eS] at e0
 have hpl:=blk_lt hW2d.blk
 have hlk:=mi_in colPr_keys Tryz.underlying112 hW2d.tm Hkn.out Hkb.out false
 simp only [colPr,Bool.false_eq_true,if_false] at hlk
 have H4:=Lib.hid (rt_set (hW2d.tab _ Hkb.out) Hx0.out hj Hh.out n Hnn.out Hl3.out)
 have HW2d:=Lib.hid hW2d
 clear hW2d
 go_wp2_with fail
 refine wp_planR 11 [0,9,10] [some 44,some 45,some 46,some 47,some 48,some 49,some 50,some 51,some 52,some 53,some 54,some 55,some 8] [[],[0],[0,1],[0,1,2],[],[4],[0,1,2,3,4,5],[],[7],[],[],[0,1,2,3,4,5,6,7,8,9,10],[0,1,2,3,4,5,6,7,8,9,10,11]] [0,1,2,3,4,5,6,7,8,9,10] mixed rfl (by kernel_rfl) (by decide) (by decide) rfl ?_
 iterate 11 apply Exists.intro
 refine ⟨rfl,?_,?_⟩
 ·simp only [tS,List.take_zero,AllFrom.cons_eq,AllFrom.nil_eq,OpGoalQ]
  refine ⟨?_,?_,?_,?_,?_,?_,?_,?_,?_,?_,?_,trivial⟩
  all_goals (intro σ hp;(try simp only [gZ,gS,mC,mN,preF_cons,preF_nil,isV,and_true] at hp);(first | (have hq : True:=hp;clear hq hp) | skip))
  all_goals (go_simp;exact ⟨rfl,rfl⟩)
 intro σ hp
 simp only [gZ,gS,mC,mN,preF_cons,preF_nil,isV,and_true] at hp
 simp only [dS,List.drop_zero]
 go_simp
 clear hp
 go_wp2_with fail
 refine H4.out.mono ?_
 rintro e w3 ⟨rfl,F3,hT3,hU3⟩
 obtain ⟨hW3,hT⟩:=HW2d.out.turnTab Hkb.out hT3 hU3
 have hC3:=HC.out.set (x':=rwSet (((s1 : Int),g),(k' : Int),a0,a1,a2,a3,a4,a5,a6,a7) j n) Hpm.out Hx0.out rfl rfl
 have hR : RepW w3 p sl (L.set i (rwSet (((s1 : Int),g),(k' : Int),a0,a1,a2,a3,a4,a5,a6,a7) j n)) _:=⟨ps,mt,mp,tb,_,pl,FS,_,_,hW3,hC3.congr (fun y => (Hms.out y).symm),Hok.out,rfl⟩
 have hTT:=Turns.after HB02.out (Turns.after below_drew hT)
 obtain ⟨HR,HTT⟩:=hid2 hR hTT
 clear hR hTT
 clear hT3 hU3 hW3 hT hC3
 go_wp2_with fail
 refine ⟨rfl,?_⟩
 go_wp2
 go_ret
 exact ⟨rfl,_,HR.out,HTT.out⟩
set_option maxRecDepth 20000 in
set_option maxHeartbeats 8000000 in
theorem wput_new (h : RepW w p sl L F) (s g n : Int) (j : Nat) (hj : j < 8) {i : Nat} (hi : idxL L (s,g) = some i) (hl0 : i < L.length) (hh : hasK L[i].2.1 j = false) (hp : ¬ putBad (j : Int) n) :
  Calls Tryz.prog 54 #[.pointer (some ⟨p,0,none⟩),.agg #[.int .i64 s,.int .i64 g],.int .i64 (j : Int),.int .i64 n] w (WRet p sl (L.set i (putR L[i] j n)) F w (.int .i64 0)):=by
 obtain ⟨hil,hie⟩:=idx_some hi
 obtain ⟨x,hx⟩ : ∃ x,L[i] = x:=⟨_,rfl⟩
 have hO:=h.ok
 have hxL : x ∈ L:=hx ▸ List.getElem_mem hil
 rw [hx] at hie hh
 try rw [hx]
 obtain ⟨kn,hkn,hK,-⟩:=(beastZ_iff _).1 (hO.be x hxL)
 obtain ⟨s1,hs60,e2⟩:=hO.slot hxL
 have hd : liveB sl s g = true:=(hO.live _ _).2 ⟨_,hxL,hie⟩
 obtain ⟨xh,xK,a0,a1,a2,a3,a4,a5,a6,a7⟩:=x
 simp only at hie hK e2 hh
 subst hie
 simp only at e2
 subst hK e2
 rw [hasK_nat kn j hkn] at hh
 have hbe:=hO.be _ hxL
 obtain ⟨w0,hw0,hb0,hz0,hs0⟩:=box1 w (.cells #[.int .i64 (s1 : Int),.int .i64 g] 47)
 have hFlt:=h.lt
 obtain ⟨ps,mt,mp,tb,rw,pl,FS,Fs,c,hW,hC,-,rfl⟩:=h
 obtain ⟨s0,kn0,i0,e1,hpm,hx0⟩:=hC.has _ hxL
 simp only at e1
 obtain rfl : s1 = s0:=by omega
 obtain ⟨hk,-⟩:=hC.pla _ _ _ hpm
 obtain ⟨-,e3,-⟩:=hC.row kn0 hk i0 _ hx0
 simp only at e3
 obtain rfl : kn = kn0:=by omega
 have hl : (rw kn).length ≤ L.length:=hC.len (fun _ h => h) hk
 have hl2:=hO.len
 obtain ⟨⟨k',b⟩,hkb,hk'⟩:=List.mem_map.1 hk
 simp only at hk'
 subst hk'
 have hs256 : s1 < 256:=by omega
 have hl3 : (rw k').length ≤ 1200000000000:=by omega
 have hW0:=hW.below hb0
 have e0:=blk_cell hW0.blk 0
 simp only [eA,eZ,eS] at e0
 have hpl:=blk_lt hW0.blk
 obtain ⟨q0,q1,ql⟩:=cells2 hz0
 have h1:=live_any ps sl FS (s1 : Int) g w0.drew (hW0.below below_drew).sl
 rw [hd] at h1
 have HK:=Lib.hid (isKind_t (j : Int) (by omega) (by omega))
 unfold putBad at hp
 have hn1 : ¬ n < -1000000000:=by omega
 have hn2 : ¬ 1000000000 < n:=by omega
 have hn0 : decide (n < -1000000000) = false:=by simpa using hn1
 have hn3 : decide (1000000000 < n) = false:=by simpa using hn2
 have hnn : ¬ (n < -1000000000 ∨ 1000000000 < n):=by omega
 have hbit:=and_bit1 ⟨k',hkn⟩ ⟨j,hj⟩
 simp only [] at hbit
 rw [hh] at hbit
 have hok:=hO.set hil (x':=putR (((s1 : Int),g),(k' : Int),a0,a1,a2,a3,a4,a5,a6,a7) j n) (by rw [hx];rfl) (putR_ok hbe hj hnn)
 have hms:=hO.mem_set hil (x':=putR (((s1 : Int),g),(k' : Int),a0,a1,a2,a3,a4,a5,a6,a7) j n) (by rw [hx];rfl)
 rw [hx] at hms
 have hor:=or_add8 ⟨k',hkn⟩ ⟨j,hj⟩ hh
 simp only [] at hor
 have hnb:=putR_ok (x:=(((s1 : Int),g),(k' : Int),a0,a1,a2,a3,a4,a5,a6,a7)) hbe hj hnn
 have hfst : (putR (((s1 : Int),g),(k' : Int),a0,a1,a2,a3,a4,a5,a6,a7) j n).1 = ((s1 : Int),g):=rfl
 rw [show putR (((s1 : Int),g),(k' : Int),a0,a1,a2,a3,a4,a5,a6,a7) j n = rwSet ((((s1 : Int),g),(k' : Int),a0,a1,a2,a3,a4,a5,a6,a7).1,((((s1 : Int),g),(k' : Int),a0,a1,a2,a3,a4,a5,a6,a7).2.1 + pw j,(((s1 : Int),g),(k' : Int),a0,a1,a2,a3,a4,a5,a6,a7).2.2)) j n from putR_not (by rw [hasK_nat k' j hkn];exact hh)] at hok hms hnb hfst ⊢
 obtain ⟨x',hx'⟩ : ∃ x',rwSet ((((s1 : Int),g),(k' : Int),a0,a1,a2,a3,a4,a5,a6,a7).1,((((s1 : Int),g),(k' : Int),a0,a1,a2,a3,a4,a5,a6,a7).2.1 + pw j,(((s1 : Int),g),(k' : Int),a0,a1,a2,a3,a4,a5,a6,a7).2.2)) j n = x':=⟨_,rfl⟩
 rw [hx'] at hok hms hnb hfst ⊢
 have hcs:=btSet_cells (((s1 : Int),g),(k' : Int),a0,a1,a2,a3,a4,a5,a6,a7) j hj ((k' : Int) + pw j) n
 rw [show rwSet ((((s1 : Int),g),(k' : Int),a0,a1,a2,a3,a4,a5,a6,a7).1,((k' : Int) + pw j,(((s1 : Int),g),(k' : Int),a0,a1,a2,a3,a4,a5,a6,a7).2.2)) j n = x' from hx'] at hcs
 have hvj:=valK_lt j hj (((s1 : Int),g),(k' : Int),a0,a1,a2,a3,a4,a5,a6,a7)
 obtain ⟨⟨s',g'⟩,K',b0,b1,b2,b3,b4,b5,b6,b7⟩:=x'
 simp only [Prod.mk.injEq] at hfst
 obtain ⟨rfl,rfl⟩:=hfst
 have hji : (j : Int) < 8:=by omega
 obtain ⟨Hp,Hnn,Hh,Hok,Hms,Hor,Hnb,Hcs,Hvj⟩:=hid9 hp hnn hh hok hms hor hnb hcs hvj
 clear hp hnn hh hok hms hor hnb hcs hvj
 clear hn1 hn2 hx'
 have H1:=Lib.hid h1;have Hb0:=Lib.hid hb0;have Hs0:=Lib.hid hs0;have Hz0:=Lib.hid hz0;have HW0:=Lib.hid hW0;have HC:=Lib.hid hC;have HO:=Lib.hid hO;have Hpm:=Lib.hid hpm;have Hkb:=Lib.hid hkb;have Hkn:=Lib.hid hkn;have Hs256:=Lib.hid hs256;have Hl3:=Lib.hid hl3;have Hx0:=Lib.hid hx0;have Hk:=Lib.hid hk;have HFlt:=Lib.hid hFlt;have HxL:=Lib.hid hxL;have Hbe:=Lib.hid hbe;have Hx:=Lib.hid hx
 clear h1 hb0 hs0 hz0 hW0 hC hO hpm hkb hkn hs256 hl3 hx0 hk hFlt hxL hbe hx
 clear hW hd hl hl2 hs60 hi
 go_enter Tryz.func54,Tryz.ntmps54
 go_wp2_with fail
 clear hw0
 refine wp_planR 5 [0] [some 12,some 13,some 14,some 15,some 16,some 17,some 18,some 11] [[],[0],[0,1],[0,1,2],[],[0,1,2,3,4],[0,1,2,3,4,5],[0,1,2,3,4,5,6]] [0,1,2,3,4] mixed rfl (by kernel_rfl) (by decide) (by decide) rfl ?_
 iterate 5 apply Exists.intro
 refine ⟨rfl,?_,?_⟩
 ·simp only [tS,List.take_zero,AllFrom.cons_eq,AllFrom.nil_eq,OpGoalQ]
  refine ⟨?_,?_,?_,?_,?_,trivial⟩
  all_goals (intro σ hp;(try simp only [gZ,gS,mC,mN,preF_cons,preF_nil,isV,and_true] at hp);(first | (have hq : True:=hp;clear hq hp) | skip))
  all_goals (go_simp;exact ⟨rfl,rfl⟩)
 intro σ hp
 simp only [gZ,gS,mC,mN,preF_cons,preF_nil,isV,and_true] at hp
 simp only [dS,List.drop_zero]
 go_simp
 clear hp
 go_wp2_with fail
 refine H1.out.mono ?_
 rintro e w1 ⟨rfl,hb1⟩
 have hb01 : Below w0.heap.size w0 w1:=below_drew.trans hb1
 have hz0:=(Mod.ofBelow hb01).keep Hz0.out (by simp)
 have hW1:=HW0.out.below hb01
 clear q0 q1 ql e0 hpl
 obtain ⟨q0,q1,ql⟩:=cells2 hz0
 have e0:=blk_cell hW1.blk 2
 simp only [eA,eZ,eS] at e0
 have hpl:=blk_lt hW1.blk
 have hlk:=mi_in plPr_keys Tryz.underlying113 (hW1.below below_drew).pm Hs256.out Hpm.out false
 have hlk2:=mi_in plPr_keys Tryz.underlying113 (hW1.below ((Below.refl _ w1).alloc (Nat.le_refl _) (.cells #[.int .i64 0,.int .i64 0] 185)).drew).pm Hs256.out Hpm.out false
 simp only [plPr,Bool.false_eq_true,if_false] at hlk hlk2
 obtain ⟨w2,hw2⟩ : ∃ w2,(w1.alloc (.cells #[.int .i64 (k' : Int),.int .i64 (i0 : Int)] 185)).drew = w2:=⟨_,rfl⟩
 have hb12 : Below w1.heap.size w1 w2:=by rw [← hw2];exact ((Below.refl _ w1).alloc (Nat.le_refl _) _).drew
 have hu2 : w2.heap[w1.heap.size]? = some (.cells #[.int .i64 (k' : Int),.int .i64 (i0 : Int)] 185 (0,0)):=by rw [← hw2];exact blk_drew (heap_alloc_new w1 _)
 have hB02:=Hb0.out.trans ((hb01.trans (hb12.mono hb01.size)).mono Hb0.out.size)
 have hW2:=hW1.below hb12
 have hy0:=(Mod.ofBelow hb12).keep hz0 (by simp)
 have hsz : w0.heap.size ≤ w1.heap.size:=hb01.size
 obtain ⟨Hw2,Hu2,HB02,HW2,Hy0⟩:=hid5 hw2 hu2 hB02 hW2 hy0
 clear hw2 hu2 hB02 hW2 hy0
 clear hb1 hb01 hz0 hW1 hb12
 go_wp2_with fail
 refine ⟨rfl,?_⟩
 go_wp2_with fail
 refine (HK.out _).mono ?_
 rintro e w3 ⟨rfl,rfl⟩
 go_wp2_with fail
 refine wp_planA ((w1.alloc (.cells #[.int .i64 0,.int .i64 0] 185)).drew) 7 8 [0] [some 31,some 32,some 33,some 34,some 35,some 36,some 37,some 9,none] [[],[0],[0,1],[0,1,2],[],[4],[0,1,2,3,4,5],[],[0,1,2,3,4,5,6,7]] [0,1,2,3,4,5,6,7] mixed rfl (by kernel_rfl) (by decide) (by decide) (by decide) rfl ?_
 iterate 8 apply Exists.intro
 refine ⟨rfl,?_,?_⟩
 ·simp only [tS,List.take_zero,AllFrom.cons_eq,AllFrom.nil_eq,OpGoalA]
  refine ⟨?_,?_,?_,?_,?_,?_,?_,?_,trivial⟩
  all_goals (intro σ hp;(try simp only [gZ,gS,mC,mN,preF_cons,preF_nil,isV,and_true] at hp);(first | (have hq : True:=hp;clear hq hp) | skip))
  all_goals (go_simp;first | exact ⟨⟨rfl,rfl⟩,⟨rfl,rfl⟩⟩ | exact ⟨rfl,rfl⟩)
 intro σ hp
 simp only [gZ,gS,mC,mN,preF_cons,preF_nil,isV,and_true] at hp
 simp only [dS,List.drop_zero]
 go_simp
 clear hp
 go_wp2_with fail
 rw [Hw2.out]
 refine ⟨rfl,?_⟩
 clear hlk hlk2 e0 hpl q0 q1 ql
 have hu2:=Hu2.out
 obtain ⟨u0,u1,ul⟩:=cells2 hu2
 clear hu2
 have hy0:=Hy0.out
 obtain ⟨q0,q1,ql⟩:=cells2 hy0
 clear hy0
 have H5:=Lib.hid (lift_core (L:=L) HW2.out HC.out (fun y hy => hy) HO.out.len (fun y hy => HO.out.slot hy) (fun y hy => HO.out.be y hy) s1 g' k' a0 a1 a2 a3 a4 a5 a6 a7 HxL.out)
 go_wp2_with fail
 refine H5.out.mono ?_
 rintro e w3 ⟨rfl,tb3,rw3,pl3,FS3,Fs3,c3,hW3,hC3,hT3⟩
 obtain ⟨w4,hw4⟩ : ∃ w4,w3.alloc (.cells #[.int .i64 (k' : Int),.int .i64 a0,.int .i64 a1,.int .i64 a2,.int .i64 a3,.int .i64 a4,.int .i64 a5,.int .i64 a6,.int .i64 a7] 45) = w4:=⟨_,rfl⟩
 have hb4 : Below w3.heap.size w3 w4:=by rw [← hw4];exact (Below.refl _ _).alloc (Nat.le_refl _) _
 have hv4 : w4.heap[w3.heap.size]? = some (.cells #[.int .i64 (k' : Int),.int .i64 a0,.int .i64 a1,.int .i64 a2,.int .i64 a3,.int .i64 a4,.int .i64 a5,.int .i64 a6,.int .i64 a7] 45 (0,0)):=by rw [← hw4];exact heap_alloc_new w3 _
 have hy3:=hT3.mod.keep Hy0.out (fun e => by have:=HFlt.out _ e;omega)
 obtain ⟨w5,hw5⟩ : ∃ w5,(w4.setCell ⟨w3.heap.size,0,none⟩ (.int .i64 ((k' : Int) + pw j))).drew = w5:=⟨_,rfl⟩
 have hv5:=blk_drew (blk_set hv4 0 (.int .i64 ((k' : Int) + pw j)))
 rw [hw5] at hv5
 have hb5 : Below w3.heap.size w4 w5:=by rw [← hw5];exact ((Below.refl w3.heap.size w4).setCell (Nat.le_refl _) _).drew
 obtain ⟨w6,hw6⟩ : ∃ w6,w5.setCell ⟨w3.heap.size,1 + j,none⟩ (.int .i64 n) = w6:=⟨_,rfl⟩
 have hv6:=blk_set hv5 (1 + j) (.int .i64 n)
 rw [hw6] at hv6
 have hv6 : w6.heap[w3.heap.size]? = some (.cells #[.int .i64 K',.int .i64 b0,.int .i64 b1,.int .i64 b2,.int .i64 b3,.int .i64 b4,.int .i64 b5,.int .i64 b6,.int .i64 b7] 45 (0,0)):=hv6.trans (congrArg (fun a => some (Obj.cells a 45 (0,0))) Hcs.out)
 have hb6 : Below w3.heap.size w5 w6:=by rw [← hw6];exact (Below.refl w3.heap.size w5).setCell (Nat.le_refl _) _
 have hb36:=hb4.trans (hb5.trans hb6)
 have hW6:=hW3.below hb36
 have hy6:=(Mod.ofBelow hb36).keep hy3 (by simp)
 have hl3:=blk_lt hv4
 have H6:=Lib.hid (lay_core (L:=L) hW6 hC3 (fun y hy => hy.1) HO.out.len s1 Hs256.out g' K' b0 b1 b2 b3 b4 b5 b6 b7 Hnb.out (fun y hy e => hy.2 (HO.out.one hy.1 HxL.out e)))
 have v0:=blk_cell hv4 0
 simp only [eA,eZ,eS] at v0
 have f0:=blk_free hv4 0
 clear q0 q1 ql u0 u1 ul hbit
 obtain ⟨Hb4,Hv5,Hw5,Hw6,Hv6,Hb36,Hy6,HT3⟩:=hid8 hb4 hv5 hw5 hw6 hv6 hb36 hy6 hT3
 clear hb4 hv5 hw5 hw6 hv6 hb36 hy6 hT3
 clear hy3 hb5 hb6 hv4 hW3 hC3 hW6
 go_wp2_with fail
 refine wp_planR 6 [2] [some 59,some 60,some 61,some 62,some 63,some 64,none] [[],[0],[],[2],[0,1,2,3],[0,1,2,3,4],[0,1,2,3,4,5]] [0,1,2,3,4,5] mixed rfl (by kernel_rfl) (by decide) (by decide) rfl ?_
 iterate 6 apply Exists.intro
 refine ⟨rfl,?_,?_⟩
 ·simp only [tS,List.take_zero,AllFrom.cons_eq,AllFrom.nil_eq,OpGoalQ]
  refine ⟨?_,?_,?_,?_,?_,?_,trivial⟩
  all_goals (intro σ hp;(try simp only [gZ,gS,mC,mN,preF_cons,preF_nil,isV,and_true] at hp);(first | (have hq : True:=hp;clear hq hp) | skip))
  all_goals (go_simp;exact ⟨rfl,rfl⟩)
 intro σ hp
 simp only [gZ,gS,mC,mN,preF_cons,preF_nil,isV,and_true] at hp
 simp only [dS,List.drop_zero]
 go_simp
 clear hp
 go_wp2_with fail
 refine ⟨rfl,?_⟩
 rw [Hor.out,Hw5.out]
 clear v0 f0 hw4
 have v0:=(blk_cell Hv5.out (1 + j)).trans (btC_get (((s1 : Int),g'),(k' : Int),a0,a1,a2,a3,a4,a5,a6,a7) j hj ((k' : Int) + pw j))
 have f0:=blk_free Hv5.out (1 + j)
 have hl5:=blk_lt Hv5.out
 have hw6:=Hw6.out
 have hv6:=Hv6.out
 obtain ⟨z0,z1,z2,z3,z4,z5,z6,z7,z8,zl⟩:=cells9 hv6
 have hy6:=Hy6.out
 obtain ⟨q0,q1,ql⟩:=cells2 hy6
 clear hv6 hy6
 go_wp2_with fail
 refine H6.out.mono ?_
 rintro e w7 ⟨rfl,tb7,rw7,pl7,FS7,Fs7,c7,hW7,hC7,hT7⟩
 have hR : RepW w7 p sl _ _:=⟨ps,mt,mp,tb7,rw7,pl7,FS7,Fs7,_,hW7,hC7.congr (fun y => (Hms.out y).symm),Hok.out,rfl⟩
 have hTT:=((Turns.after HB02.out HT3.out).below Hb36.out).trans hT7
 obtain ⟨HR,HTT⟩:=hid2 hR hTT
 clear hR hTT
 clear hW7 hC7 hT7
 go_wp2
 go_ret
 exact ⟨rfl,_,HR.out,HTT.out⟩
set_option maxRecDepth 20000 in
set_option maxHeartbeats 8000000 in
theorem wdrop_not (h : RepW w p sl L F) (s g : Int) (j : Nat) (hj : j < 8) {i : Nat} (hi : idxL L (s,g) = some i) (hl0 : i < L.length) (hh : hasK L[i].2.1 j = false) :
  Calls Tryz.prog 55 #[.pointer (some ⟨p,0,none⟩),.agg #[.int .i64 s,.int .i64 g],.int .i64 (j : Int)] w (fun e w' => e = .returned (.int .i64 5) ∧ Below w.heap.size w w'):=by
 obtain ⟨hil,hie⟩:=idx_some hi
 obtain ⟨x,hx⟩ : ∃ x,L[i] = x:=⟨_,rfl⟩
 have hO:=h.ok
 have hxL : x ∈ L:=hx ▸ List.getElem_mem hil
 rw [hx] at hie hh
 try rw [hx]
 obtain ⟨kn,hkn,hK,-⟩:=(beastZ_iff _).1 (hO.be x hxL)
 obtain ⟨s1,hs60,e2⟩:=hO.slot hxL
 have hd : liveB sl s g = true:=(hO.live _ _).2 ⟨_,hxL,hie⟩
 obtain ⟨xh,xK,a0,a1,a2,a3,a4,a5,a6,a7⟩:=x
 simp only at hie hK e2 hh
 subst hie
 simp only at e2
 subst hK e2
 rw [hasK_nat kn j hkn] at hh
 have hbe:=hO.be _ hxL
 obtain ⟨w0,hw0,hb0,hz0,hs0⟩:=box1 w (.cells #[.int .i64 (s1 : Int),.int .i64 g] 47)
 have hFlt:=h.lt
 obtain ⟨ps,mt,mp,tb,rw,pl,FS,Fs,c,hW,hC,-,rfl⟩:=h
 obtain ⟨s0,kn0,i0,e1,hpm,hx0⟩:=hC.has _ hxL
 simp only at e1
 obtain rfl : s1 = s0:=by omega
 obtain ⟨hk,-⟩:=hC.pla _ _ _ hpm
 obtain ⟨-,e3,-⟩:=hC.row kn0 hk i0 _ hx0
 simp only at e3
 obtain rfl : kn = kn0:=by omega
 have hl : (rw kn).length ≤ L.length:=hC.len (fun _ h => h) hk
 have hl2:=hO.len
 obtain ⟨⟨k',b⟩,hkb,hk'⟩:=List.mem_map.1 hk
 simp only at hk'
 subst hk'
 have hs256 : s1 < 256:=by omega
 have hl3 : (rw k').length ≤ 1200000000000:=by omega
 have hW0:=hW.below hb0
 have e0:=blk_cell hW0.blk 0
 simp only [eA,eZ,eS] at e0
 have hpl:=blk_lt hW0.blk
 obtain ⟨q0,q1,ql⟩:=cells2 hz0
 have h1:=live_any ps sl FS (s1 : Int) g w0.drew (hW0.below below_drew).sl
 rw [hd] at h1
 have HK:=Lib.hid (isKind_t (j : Int) (by omega) (by omega))
 have hbit:=and_bit0 ⟨k',hkn⟩ ⟨j,hj⟩
 simp only [] at hbit
 rw [hh] at hbit
 simp only [Bool.not_false] at hbit
 have Hh:=Lib.hid hh
 clear hh
 have H1:=Lib.hid h1;have Hb0:=Lib.hid hb0;have Hs0:=Lib.hid hs0;have Hz0:=Lib.hid hz0;have HW0:=Lib.hid hW0;have HC:=Lib.hid hC;have HO:=Lib.hid hO;have Hpm:=Lib.hid hpm;have Hkb:=Lib.hid hkb;have Hkn:=Lib.hid hkn;have Hs256:=Lib.hid hs256;have Hl3:=Lib.hid hl3;have Hx0:=Lib.hid hx0;have Hk:=Lib.hid hk;have HFlt:=Lib.hid hFlt;have HxL:=Lib.hid hxL;have Hbe:=Lib.hid hbe;have Hx:=Lib.hid hx
 clear h1 hb0 hs0 hz0 hW0 hC hO hpm hkb hkn hs256 hl3 hx0 hk hFlt hxL hbe hx
 clear hW hd hl hl2 hs60 hi
 go_enter Tryz.func55,Tryz.ntmps55
 go_wp2_with fail
 clear hw0
 refine wp_planR 5 [0] [some 9,some 10,some 11,some 12,some 13,some 14,some 15,some 8] [[],[0],[0,1],[0,1,2],[],[0,1,2,3,4],[0,1,2,3,4,5],[0,1,2,3,4,5,6]] [0,1,2,3,4] mixed rfl (by kernel_rfl) (by decide) (by decide) rfl ?_
 iterate 5 apply Exists.intro
 refine ⟨rfl,?_,?_⟩
 ·simp only [tS,List.take_zero,AllFrom.cons_eq,AllFrom.nil_eq,OpGoalQ]
  refine ⟨?_,?_,?_,?_,?_,trivial⟩
  all_goals (intro σ hp;(try simp only [gZ,gS,mC,mN,preF_cons,preF_nil,isV,and_true] at hp);(first | (have hq : True:=hp;clear hq hp) | skip))
  all_goals (go_simp;exact ⟨rfl,rfl⟩)
 intro σ hp
 simp only [gZ,gS,mC,mN,preF_cons,preF_nil,isV,and_true] at hp
 simp only [dS,List.drop_zero]
 go_simp
 clear hp
 go_wp2_with fail
 refine H1.out.mono ?_
 rintro e w1 ⟨rfl,hb1⟩
 have hb01 : Below w0.heap.size w0 w1:=below_drew.trans hb1
 have hz0:=(Mod.ofBelow hb01).keep Hz0.out (by simp)
 have hW1:=HW0.out.below hb01
 clear q0 q1 ql e0 hpl
 obtain ⟨q0,q1,ql⟩:=cells2 hz0
 have e0:=blk_cell hW1.blk 2
 simp only [eA,eZ,eS] at e0
 have hpl:=blk_lt hW1.blk
 have hlk:=mi_in plPr_keys Tryz.underlying113 (hW1.below below_drew).pm Hs256.out Hpm.out false
 simp only [plPr,Bool.false_eq_true,if_false] at hlk
 obtain ⟨w2,hw2⟩ : ∃ w2,w1.drew = w2:=⟨_,rfl⟩
 have hb12 : Below w1.heap.size w1 w2:=by rw [← hw2];exact below_drew
 have hB02:=Hb0.out.trans ((hb01.trans (hb12.mono hb01.size)).mono Hb0.out.size)
 have hW2:=hW1.below hb12
 have hy0:=(Mod.ofBelow hb12).keep hz0 (by simp)
 obtain ⟨Hw2,HB02,HW2,Hy0⟩:=hid4 hw2 hB02 hW2 hy0
 clear hw2 hB02 hW2 hy0
 clear hb1 hb01 hz0 hW1 hb12
 go_wp2_with fail
 refine ⟨rfl,?_⟩
 go_wp2_with fail
 refine (HK.out _).mono ?_
 rintro e w3 ⟨rfl,rfl⟩
 go_wp2_with fail
 refine wp_planR 13 [0,8] [some 21,some 22,some 23,some 24,some 25,some 26,some 27,some 28,some 29,some 30,some 31,some 32,some 20] [[],[0],[0,1],[0,1,2],[],[4],[0,1,2,3,4,5],[0,1,2,3,4,5,6],[],[0,1,2,3,4,5,6,7,8],[0,1,2,3,4,5,6,7,8,9],[0,1,2,3,4,5,6,7,8,9,10],[0,1,2,3,4,5,6,7,8,9,10,11]] [0,1,2,3,4,5,6,7,8,9,10,11,12] mixed rfl (by kernel_rfl) (by decide) (by decide) rfl ?_
 iterate 13 apply Exists.intro
 refine ⟨rfl,?_,?_⟩
 ·simp only [tS,List.take_zero,AllFrom.cons_eq,AllFrom.nil_eq,OpGoalQ]
  refine ⟨?_,?_,?_,?_,?_,?_,?_,?_,?_,?_,?_,?_,?_,trivial⟩
  all_goals (intro σ hp;(try simp only [gZ,gS,mC,mN,preF_cons,preF_nil,isV,and_true] at hp);(first | (have hq : True:=hp;clear hq hp) | skip))
  all_goals (go_simp;exact ⟨rfl,rfl⟩)
 intro σ hp
 simp only [gZ,gS,mC,mN,preF_cons,preF_nil,isV,and_true] at hp
 simp only [dS,List.drop_zero]
 go_simp
 clear hp
 rw [Hw2.out]
 refine ⟨rfl,?_⟩
 clear hlk e0 hpl q0 q1 ql
 go_wp2
 go_ret
 exact ⟨rfl,HB02.out⟩
set_option maxRecDepth 20000 in
set_option maxHeartbeats 8000000 in
theorem wdrop_has (h : RepW w p sl L F) (s g : Int) (j : Nat) (hj : j < 8) {i : Nat} (hi : idxL L (s,g) = some i) (hl0 : i < L.length) (hh : hasK L[i].2.1 j = true) :
  Calls Tryz.prog 55 #[.pointer (some ⟨p,0,none⟩),.agg #[.int .i64 s,.int .i64 g],.int .i64 (j : Int)] w (WRet p sl (L.set i (dropR L[i] j)) F w (.int .i64 0)):=by
 obtain ⟨hil,hie⟩:=idx_some hi
 obtain ⟨x,hx⟩ : ∃ x,L[i] = x:=⟨_,rfl⟩
 have hO:=h.ok
 have hxL : x ∈ L:=hx ▸ List.getElem_mem hil
 rw [hx] at hie hh
 try rw [hx]
 obtain ⟨kn,hkn,hK,-⟩:=(beastZ_iff _).1 (hO.be x hxL)
 obtain ⟨s1,hs60,e2⟩:=hO.slot hxL
 have hd : liveB sl s g = true:=(hO.live _ _).2 ⟨_,hxL,hie⟩
 obtain ⟨xh,xK,a0,a1,a2,a3,a4,a5,a6,a7⟩:=x
 simp only at hie hK e2 hh
 subst hie
 simp only at e2
 subst hK e2
 rw [hasK_nat kn j hkn] at hh
 have hbe:=hO.be _ hxL
 obtain ⟨w0,hw0,hb0,hz0,hs0⟩:=box1 w (.cells #[.int .i64 (s1 : Int),.int .i64 g] 47)
 have hFlt:=h.lt
 obtain ⟨ps,mt,mp,tb,rw,pl,FS,Fs,c,hW,hC,-,rfl⟩:=h
 obtain ⟨s0,kn0,i0,e1,hpm,hx0⟩:=hC.has _ hxL
 simp only at e1
 obtain rfl : s1 = s0:=by omega
 obtain ⟨hk,-⟩:=hC.pla _ _ _ hpm
 obtain ⟨-,e3,-⟩:=hC.row kn0 hk i0 _ hx0
 simp only at e3
 obtain rfl : kn = kn0:=by omega
 have hl : (rw kn).length ≤ L.length:=hC.len (fun _ h => h) hk
 have hl2:=hO.len
 obtain ⟨⟨k',b⟩,hkb,hk'⟩:=List.mem_map.1 hk
 simp only at hk'
 subst hk'
 have hs256 : s1 < 256:=by omega
 have hl3 : (rw k').length ≤ 1200000000000:=by omega
 have hW0:=hW.below hb0
 have e0:=blk_cell hW0.blk 0
 simp only [eA,eZ,eS] at e0
 have hpl:=blk_lt hW0.blk
 obtain ⟨q0,q1,ql⟩:=cells2 hz0
 have h1:=live_any ps sl FS (s1 : Int) g w0.drew (hW0.below below_drew).sl
 rw [hd] at h1
 have HK:=Lib.hid (isKind_t (j : Int) (by omega) (by omega))
 have hbit:=and_bit0 ⟨k',hkn⟩ ⟨j,hj⟩
 simp only [] at hbit
 rw [hh] at hbit
 simp only [Bool.not_true] at hbit
 have hnb:=dropR_ok (x:=(((s1 : Int),g),(k' : Int),a0,a1,a2,a3,a4,a5,a6,a7)) hbe hj (by rw [hasK_nat k' j hkn];exact hh)
 have hok:=hO.set hil (x':=dropR (((s1 : Int),g),(k' : Int),a0,a1,a2,a3,a4,a5,a6,a7) j) (by rw [hx];rfl) hnb
 have hms:=hO.mem_set hil (x':=dropR (((s1 : Int),g),(k' : Int),a0,a1,a2,a3,a4,a5,a6,a7) j) (by rw [hx];rfl)
 rw [hx] at hms
 have hor:=andnot_sub8 ⟨k',hkn⟩ ⟨j,hj⟩ hh
 simp only [] at hor
 have hfst : (dropR (((s1 : Int),g),(k' : Int),a0,a1,a2,a3,a4,a5,a6,a7) j).1 = ((s1 : Int),g):=rfl
 rw [show dropR (((s1 : Int),g),(k' : Int),a0,a1,a2,a3,a4,a5,a6,a7) j = rwSet ((((s1 : Int),g),(k' : Int),a0,a1,a2,a3,a4,a5,a6,a7).1,((((s1 : Int),g),(k' : Int),a0,a1,a2,a3,a4,a5,a6,a7).2.1 - pw j,(((s1 : Int),g),(k' : Int),a0,a1,a2,a3,a4,a5,a6,a7).2.2)) j 0 from dropR_eq] at hok hms hnb hfst ⊢
 obtain ⟨x',hx'⟩ : ∃ x',rwSet ((((s1 : Int),g),(k' : Int),a0,a1,a2,a3,a4,a5,a6,a7).1,((((s1 : Int),g),(k' : Int),a0,a1,a2,a3,a4,a5,a6,a7).2.1 - pw j,(((s1 : Int),g),(k' : Int),a0,a1,a2,a3,a4,a5,a6,a7).2.2)) j 0 = x':=⟨_,rfl⟩
 rw [hx'] at hok hms hnb hfst ⊢
 have hcs:=btSet_cells (((s1 : Int),g),(k' : Int),a0,a1,a2,a3,a4,a5,a6,a7) j hj ((k' : Int) - pw j) 0
 rw [show rwSet ((((s1 : Int),g),(k' : Int),a0,a1,a2,a3,a4,a5,a6,a7).1,((k' : Int) - pw j,(((s1 : Int),g),(k' : Int),a0,a1,a2,a3,a4,a5,a6,a7).2.2)) j 0 = x' from hx'] at hcs
 have hvj:=valK_lt j hj (((s1 : Int),g),(k' : Int),a0,a1,a2,a3,a4,a5,a6,a7)
 obtain ⟨⟨s',g'⟩,K',b0,b1,b2,b3,b4,b5,b6,b7⟩:=x'
 simp only [Prod.mk.injEq] at hfst
 obtain ⟨rfl,rfl⟩:=hfst
 have hji : (j : Int) < 8:=by omega
 obtain ⟨Hh,Hok,Hms,Hor,Hnb,Hcs,Hvj⟩:=hid7 hh hok hms hor hnb hcs hvj
 clear hh hok hms hor hnb hcs hvj
 clear hx'
 have H1:=Lib.hid h1;have Hb0:=Lib.hid hb0;have Hs0:=Lib.hid hs0;have Hz0:=Lib.hid hz0;have HW0:=Lib.hid hW0;have HC:=Lib.hid hC;have HO:=Lib.hid hO;have Hpm:=Lib.hid hpm;have Hkb:=Lib.hid hkb;have Hkn:=Lib.hid hkn;have Hs256:=Lib.hid hs256;have Hl3:=Lib.hid hl3;have Hx0:=Lib.hid hx0;have Hk:=Lib.hid hk;have HFlt:=Lib.hid hFlt;have HxL:=Lib.hid hxL;have Hbe:=Lib.hid hbe;have Hx:=Lib.hid hx
 clear h1 hb0 hs0 hz0 hW0 hC hO hpm hkb hkn hs256 hl3 hx0 hk hFlt hxL hbe hx
 clear hW hd hl hl2 hs60 hi
 go_enter Tryz.func55,Tryz.ntmps55
 go_wp2_with fail
 clear hw0
 refine wp_planR 5 [0] [some 9,some 10,some 11,some 12,some 13,some 14,some 15,some 8] [[],[0],[0,1],[0,1,2],[],[0,1,2,3,4],[0,1,2,3,4,5],[0,1,2,3,4,5,6]] [0,1,2,3,4] mixed rfl (by kernel_rfl) (by decide) (by decide) rfl ?_
 iterate 5 apply Exists.intro
 refine ⟨rfl,?_,?_⟩
 ·simp only [tS,List.take_zero,AllFrom.cons_eq,AllFrom.nil_eq,OpGoalQ]
  refine ⟨?_,?_,?_,?_,?_,trivial⟩
  all_goals (intro σ hp;(try simp only [gZ,gS,mC,mN,preF_cons,preF_nil,isV,and_true] at hp);(first | (have hq : True:=hp;clear hq hp) | skip))
  all_goals (go_simp;exact ⟨rfl,rfl⟩)
 intro σ hp
 simp only [gZ,gS,mC,mN,preF_cons,preF_nil,isV,and_true] at hp
 simp only [dS,List.drop_zero]
 go_simp
 clear hp
 go_wp2_with fail
 refine H1.out.mono ?_
 rintro e w1 ⟨rfl,hb1⟩
 have hb01 : Below w0.heap.size w0 w1:=below_drew.trans hb1
 have hz0:=(Mod.ofBelow hb01).keep Hz0.out (by simp)
 have hW1:=HW0.out.below hb01
 clear q0 q1 ql e0 hpl
 obtain ⟨q0,q1,ql⟩:=cells2 hz0
 have e0:=blk_cell hW1.blk 2
 simp only [eA,eZ,eS] at e0
 have hpl:=blk_lt hW1.blk
 have hlk:=mi_in plPr_keys Tryz.underlying113 (hW1.below below_drew).pm Hs256.out Hpm.out false
 simp only [plPr,Bool.false_eq_true,if_false] at hlk
 obtain ⟨w2,hw2⟩ : ∃ w2,w1.drew = w2:=⟨_,rfl⟩
 have hb12 : Below w1.heap.size w1 w2:=by rw [← hw2];exact below_drew
 have hB02:=Hb0.out.trans ((hb01.trans (hb12.mono hb01.size)).mono Hb0.out.size)
 have hW2:=hW1.below hb12
 have hy0:=(Mod.ofBelow hb12).keep hz0 (by simp)
 obtain ⟨Hw2,HB02,HW2,Hy0⟩:=hid4 hw2 hB02 hW2 hy0
 clear hw2 hB02 hW2 hy0
 clear hb1 hb01 hz0 hW1 hb12
 go_wp2_with fail
 refine ⟨rfl,?_⟩
 go_wp2_with fail
 refine (HK.out _).mono ?_
 rintro e w3 ⟨rfl,rfl⟩
 go_wp2_with fail
 refine wp_planR 13 [0,8] [some 21,some 22,some 23,some 24,some 25,some 26,some 27,some 28,some 29,some 30,some 31,some 32,some 20] [[],[0],[0,1],[0,1,2],[],[4],[0,1,2,3,4,5],[0,1,2,3,4,5,6],[],[0,1,2,3,4,5,6,7,8],[0,1,2,3,4,5,6,7,8,9],[0,1,2,3,4,5,6,7,8,9,10],[0,1,2,3,4,5,6,7,8,9,10,11]] [0,1,2,3,4,5,6,7,8,9,10,11,12] mixed rfl (by kernel_rfl) (by decide) (by decide) rfl ?_
 iterate 13 apply Exists.intro
 refine ⟨rfl,?_,?_⟩
 ·simp only [tS,List.take_zero,AllFrom.cons_eq,AllFrom.nil_eq,OpGoalQ]
  refine ⟨?_,?_,?_,?_,?_,?_,?_,?_,?_,?_,?_,?_,?_,trivial⟩
  all_goals (intro σ hp;(try simp only [gZ,gS,mC,mN,preF_cons,preF_nil,isV,and_true] at hp);(first | (have hq : True:=hp;clear hq hp) | skip))
  all_goals (go_simp;exact ⟨rfl,rfl⟩)
 intro σ hp
 simp only [gZ,gS,mC,mN,preF_cons,preF_nil,isV,and_true] at hp
 simp only [dS,List.drop_zero]
 go_simp
 clear hp
 rw [Hw2.out]
 refine ⟨rfl,?_⟩
 clear hlk e0 hpl q0 q1 ql
 have hy0:=Hy0.out
 obtain ⟨q0,q1,ql⟩:=cells2 hy0
 clear hy0
 have H5:=Lib.hid (lift_core (L:=L) HW2.out HC.out (fun y hy => hy) HO.out.len (fun y hy => HO.out.slot hy) (fun y hy => HO.out.be y hy) s1 g' k' a0 a1 a2 a3 a4 a5 a6 a7 HxL.out)
 go_wp2_with fail
 refine H5.out.mono ?_
 rintro e w3 ⟨rfl,tb3,rw3,pl3,FS3,Fs3,c3,hW3,hC3,hT3⟩
 obtain ⟨w4,hw4⟩ : ∃ w4,w3.alloc (.cells #[.int .i64 (k' : Int),.int .i64 a0,.int .i64 a1,.int .i64 a2,.int .i64 a3,.int .i64 a4,.int .i64 a5,.int .i64 a6,.int .i64 a7] 45) = w4:=⟨_,rfl⟩
 have hb4 : Below w3.heap.size w3 w4:=by rw [← hw4];exact (Below.refl _ _).alloc (Nat.le_refl _) _
 have hv4 : w4.heap[w3.heap.size]? = some (.cells #[.int .i64 (k' : Int),.int .i64 a0,.int .i64 a1,.int .i64 a2,.int .i64 a3,.int .i64 a4,.int .i64 a5,.int .i64 a6,.int .i64 a7] 45 (0,0)):=by rw [← hw4];exact heap_alloc_new w3 _
 have hy3:=hT3.mod.keep Hy0.out (fun e => by have:=HFlt.out _ e;omega)
 obtain ⟨w5,hw5⟩ : ∃ w5,(w4.setCell ⟨w3.heap.size,0,none⟩ (.int .i64 ((k' : Int) - pw j))).drew = w5:=⟨_,rfl⟩
 have hv5:=blk_drew (blk_set hv4 0 (.int .i64 ((k' : Int) - pw j)))
 rw [hw5] at hv5
 have hb5 : Below w3.heap.size w4 w5:=by rw [← hw5];exact ((Below.refl w3.heap.size w4).setCell (Nat.le_refl _) _).drew
 obtain ⟨w6,hw6⟩ : ∃ w6,w5.setCell ⟨w3.heap.size,1 + j,none⟩ (.int .i64 0) = w6:=⟨_,rfl⟩
 have hv6:=blk_set hv5 (1 + j) (.int .i64 0)
 rw [hw6] at hv6
 have hv6 : w6.heap[w3.heap.size]? = some (.cells #[.int .i64 K',.int .i64 b0,.int .i64 b1,.int .i64 b2,.int .i64 b3,.int .i64 b4,.int .i64 b5,.int .i64 b6,.int .i64 b7] 45 (0,0)):=hv6.trans (congrArg (fun a => some (Obj.cells a 45 (0,0))) Hcs.out)
 have hb6 : Below w3.heap.size w5 w6:=by rw [← hw6];exact (Below.refl w3.heap.size w5).setCell (Nat.le_refl _) _
 have hb36:=hb4.trans (hb5.trans hb6)
 have hW6:=hW3.below hb36
 have hy6:=(Mod.ofBelow hb36).keep hy3 (by simp)
 have hl3:=blk_lt hv4
 have H6:=Lib.hid (lay_core (L:=L) hW6 hC3 (fun y hy => hy.1) HO.out.len s1 Hs256.out g' K' b0 b1 b2 b3 b4 b5 b6 b7 Hnb.out (fun y hy e => hy.2 (HO.out.one hy.1 HxL.out e)))
 have v0:=blk_cell hv4 0
 simp only [eA,eZ,eS] at v0
 have f0:=blk_free hv4 0
 clear q0 q1 ql hbit
 obtain ⟨Hb4,Hv5,Hw5,Hw6,Hv6,Hb36,Hy6,HT3⟩:=hid8 hb4 hv5 hw5 hw6 hv6 hb36 hy6 hT3
 clear hb4 hv5 hw5 hw6 hv6 hb36 hy6 hT3
 clear hy3 hb5 hb6 hv4 hW3 hC3 hW6
 go_wp2_with fail
 refine wp_planR 6 [2] [some 36,some 37,some 38,some 39,some 40,some 41,none] [[],[0],[],[2],[0,1,2,3],[0,1,2,3,4],[0,1,2,3,4,5]] [0,1,2,3,4,5] mixed rfl (by kernel_rfl) (by decide) (by decide) rfl ?_
 iterate 6 apply Exists.intro
 refine ⟨rfl,?_,?_⟩
 ·simp only [tS,List.take_zero,AllFrom.cons_eq,AllFrom.nil_eq,OpGoalQ]
  refine ⟨?_,?_,?_,?_,?_,?_,trivial⟩
  all_goals (intro σ hp;(try simp only [gZ,gS,mC,mN,preF_cons,preF_nil,isV,and_true] at hp);(first | (have hq : True:=hp;clear hq hp) | skip))
  all_goals (go_simp;exact ⟨rfl,rfl⟩)
 intro σ hp
 simp only [gZ,gS,mC,mN,preF_cons,preF_nil,isV,and_true] at hp
 simp only [dS,List.drop_zero]
 go_simp
 clear hp
 go_wp2_with fail
 refine ⟨rfl,?_⟩
 rw [Hor.out,Hw5.out]
 clear v0 f0 hw4
 have v0:=(blk_cell Hv5.out (1 + j)).trans (btC_get (((s1 : Int),g'),(k' : Int),a0,a1,a2,a3,a4,a5,a6,a7) j hj ((k' : Int) - pw j))
 have f0:=blk_free Hv5.out (1 + j)
 have hl5:=blk_lt Hv5.out
 have hw6:=Hw6.out
 have hv6:=Hv6.out
 obtain ⟨z0,z1,z2,z3,z4,z5,z6,z7,z8,zl⟩:=cells9 hv6
 have hy6:=Hy6.out
 obtain ⟨q0,q1,ql⟩:=cells2 hy6
 clear hv6 hy6
 go_wp2_with fail
 refine H6.out.mono ?_
 rintro e w7 ⟨rfl,tb7,rw7,pl7,FS7,Fs7,c7,hW7,hC7,hT7⟩
 have hR : RepW w7 p sl _ _:=⟨ps,mt,mp,tb7,rw7,pl7,FS7,Fs7,_,hW7,hC7.congr (fun y => (Hms.out y).symm),Hok.out,rfl⟩
 have hTT:=((Turns.after HB02.out HT3.out).below Hb36.out).trans hT7
 obtain ⟨HR,HTT⟩:=hid2 hR hTT
 clear hR hTT
 clear hW7 hC7 hT7
 go_wp2
 go_ret
 exact ⟨rfl,_,HR.out,HTT.out⟩
theorem wput_any (h : RepW w p sl L F) (s g k n : Int) :
  Calls Tryz.prog 54 #[.pointer (some ⟨p,0,none⟩),.agg #[.int .i64 s,.int .i64 g],.int .i64 k,.int .i64 n] w (WRet p sl (putW L (s,g) k n) F w (.int .i64 (putE L (s,g) k n))):=by
 rcases h.ok.idx s g with ⟨h1,i,h2⟩ | ⟨h1,h2⟩
 ·obtain ⟨hl,-⟩:=idx_some h2
  rw [putE_some h2,putW_some h2]
  by_cases hp : putBad k n
  ·rw [if_pos hp,if_pos hp]
   exact (wput_bad h s g k n h1 hp).mono fun e w' ⟨he,hb⟩ => ⟨he,F,h.below hb,Turns.ofBelow hb⟩
  ·rw [if_neg hp,if_neg hp]
   obtain ⟨j,rfl,hj⟩ : ∃ j : Nat,k = j ∧ j < 8:=⟨k.toNat,by unfold putBad at hp;omega,by unfold putBad at hp;omega⟩
   rw [modify_set hl,Int.toNat_natCast]
   cases hh : hasK L[i].2.1 j with
   | true => rw [putR_has hh];exact wput_has h s g n j hj h2 hl hh hp
   | false => exact wput_new h s g n j hj h2 hl hh hp
 ·rw [putE_none h2,putW_none h2]
  exact (wput_dead h s g k n h1).mono fun e w' ⟨he,hb⟩ => ⟨he,F,h.below hb,Turns.ofBelow hb⟩
theorem wdrop_any (h : RepW w p sl L F) (s g k : Int) :
  Calls Tryz.prog 55 #[.pointer (some ⟨p,0,none⟩),.agg #[.int .i64 s,.int .i64 g],.int .i64 k] w (WRet p sl (dropL L (s,g) k) F w (.int .i64 (dropE L (s,g) k))):=by
 rcases h.ok.idx s g with ⟨h1,i,h2⟩ | ⟨h1,h2⟩
 ·obtain ⟨hl,-⟩:=idx_some h2
  rw [dropL_some h2,dropE_some h2 hl]
  by_cases hp : k < 0 ∨ 7 < k
  ·rw [if_pos hp,if_neg (by simp)]
   exact (wdrop_bad h s g k h1 hp).mono fun e w' ⟨he,hb⟩ => ⟨he,F,h.below hb,Turns.ofBelow hb⟩
  ·rw [if_neg hp]
   obtain ⟨j,rfl,hj⟩ : ∃ j : Nat,k = j ∧ j < 8:=⟨k.toNat,by omega,by omega⟩
   rw [Int.toNat_natCast]
   cases hh : hasK L[i].2.1 j with
   | true => rw [if_pos rfl,if_pos rfl,modify_set hl];exact wdrop_has h s g j hj h2 hl hh
   | false =>
    rw [if_neg (by simp),if_neg (by simp)]
    exact (wdrop_not h s g j hj h2 hl hh).mono fun e w' ⟨he,hb⟩ => ⟨he,F,h.below hb,Turns.ofBelow hb⟩
 ·rw [dropL_none h2,dropE_none h2]
  exact (wdrop_dead h s g k h1).mono fun e w' ⟨he,hb⟩ => ⟨he,F,h.below hb,Turns.ofBelow hb⟩
end
end Go.Proofs.YtfdillpofciicaaGreatDoor
