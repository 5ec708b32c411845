import Derived.Test.YtfdillpofciicaaGreatDoorTopSavedJ15
set_option linter.unusedVariables false
set_option linter.unusedSimpArgs false
/- A part of the proof that TopSaved returns true. -/
namespace Go.Proofs.YtfdillpofciicaaGreatDoor
open Go Go.RowKit
theorem box2 (w : World) (o1 o2 : Obj) : ∃ w0,(w.alloc o1).alloc o2 = w0 ∧ Below w.heap.size w w0 ∧ w0.heap[w.heap.size]? = some o1 ∧ w0.heap[w.heap.size + 1]? = some o2 ∧ w0.heap.size = w.heap.size + 2 :=
 ⟨_,rfl,((Below.refl _ _).alloc (Nat.le_refl _) _).alloc (by simp) _,blk_alloc (MapKept.heap_alloc w o1).1 _,by have:=(MapKept.heap_alloc (w.alloc o1) o2).1;simpa using this,by simp⟩
theorem box1 (w : World) (o1 : Obj) : ∃ w0,w.alloc o1 = w0 ∧ Below w.heap.size w w0 ∧ w0.heap[w.heap.size]? = some o1 ∧ w0.heap.size = w.heap.size + 1 :=
 ⟨_,rfl,(Below.refl _ _).alloc (Nat.le_refl _) _,(MapKept.heap_alloc w o1).1,by simp⟩
theorem rep_fin {w w1 w8 w9 : World} {p : Nat} {sl : Sl} {L : List Rw} {F F' Z : List Nat} (hb : Below w.heap.size w w1) (hZ : ∀ z ∈ Z,w.heap.size ≤ z ∧ z < w1.heap.size) (hF : ∀ y ∈ F,y < w.heap.size) (h : RepW w8 p sl L F') (hT : Turns w1 F F' w8) (hm : Mod Z w8 w9) :
  RepW w9 p sl L F' ∧ Turns w F F' w9:=by
 refine ⟨h.mod hm (fun y hy e => ?_),(Turns.after hb hT).mod.trans hm (fun x hx => .inr (hZ x hx).1),(Turns.after hb hT).new⟩
 have:=hZ y e
 rcases hT.new y hy with h1 | h1
 ·have:=hF _ h1;omega
 ·omega
attribute [local go_sem] AllFrom.cons_eq AllFrom.nil_eq putF_nil putF_cons wantedL_none wantedL_some OpGoalT OpGoalV OpGoalQ OpGoalA YieldsR preF_nil preF_cons
section
variable {w : World} {p : Nat} {sl : Sl} {L : List Rw} {F : List Nat}
set_option maxRecDepth 20000 in
set_option maxHeartbeats 4000000 in
theorem spawn_bad (h : RepW w p sl L F) (K a0 a1 a2 a3 a4 a5 a6 a7 : Int) (hb : beastZ (K,a0,a1,a2,a3,a4,a5,a6,a7) ≠ 0) :
  Calls Tryz.prog 52 #[.pointer (some ⟨p,0,none⟩),.agg #[.int .i64 K,.int .i64 a0,.int .i64 a1,.int .i64 a2,.int .i64 a3,.int .i64 a4,.int .i64 a5,.int .i64 a6,.int .i64 a7]] w (WRet p sl L F w (.tuple #[.agg #[.int .i64 0,.int .i64 0],.int .i64 (beastZ (K,a0,a1,a2,a3,a4,a5,a6,a7))])):=by
 have h1:=fun w => checkBeast_any K a0 a1 a2 a3 a4 a5 a6 a7 w
 rw [show beastE K [a0,a1,a2,a3,a4,a5,a6,a7] = beastZ (K,a0,a1,a2,a3,a4,a5,a6,a7) from rfl] at h1
 generalize beastZ (K,a0,a1,a2,a3,a4,a5,a6,a7) = z at *
 have hq : (z != 0) = true:=by simpa using hb
 obtain ⟨w0,hw0,hb0,hz0,hz1,hs0⟩:=box2 w (.cells #[.int .i64 K,.int .i64 a0,.int .i64 a1,.int .i64 a2,.int .i64 a3,.int .i64 a4,.int .i64 a5,.int .i64 a6,.int .i64 a7] 45) (.cells #[.int .i64 0,.int .i64 0] 47)
 obtain ⟨q0,q1,q2,q3,q4,q5,q6,q7,q8,ql⟩:=cells9 hz0
 obtain ⟨H,H1,Hb0,Hz1,Hs0⟩:=hid5 h h1 hb0 hz1 hs0
 clear h h1 hb0 hz1 hs0
 clear hb hz0
 go_enter Tryz.func52,Tryz.ntmps52
 go_wp2_with fail
 clear hw0
 refine (H1.out _).mono ?_
 rintro e w1 ⟨rfl,hb1⟩
 have hy1:=(Mod.ofBelow hb1).keep Hz1.out (by simp)
 obtain ⟨r0,r1,rl⟩:=cells2 hy1
 have f0:=blk_free hy1 0
 have f1:=blk_free hy1 1
 have hb01:=Hb0.out.trans (hb1.mono Hb0.out.size)
 have hsz:=hb1.size
 have hs0:=Hs0.out
 have HFin:=Lib.hid (fun w9 (hm : Mod [w.heap.size + 1] w1 w9) => rep_fin hb01 (Z:=[w.heap.size + 1]) (by simp;omega) H.out.lt (H.out.below hb01) (Turns.refl _ _) hm)
 clear hb1 hb01 hy1 q0 q1 q2 q3 q4 q5 q6 q7 q8 ql hs0
 go_wp2
 refine bodyPost_ret (v:=.tuple #[.agg #[.int .i64 0,.int .i64 0],.int .i64 z]) (by unfold results;try go_simp) rfl ?_
 refine ⟨rfl,F,HFin.out _ ?_⟩
 repeat (refine Mod.setCell ?_ (.inl (by simp)) _)
 exact Mod.refl _ _
set_option maxRecDepth 20000 in
set_option maxHeartbeats 4000000 in
theorem spawn_full (h : RepW w p sl L F) (K a0 a1 a2 a3 a4 a5 a6 a7 : Int) (hb : beastZ (K,a0,a1,a2,a3,a4,a5,a6,a7) = 0) (ht : takeE sl ≠ 0) :
  Calls Tryz.prog 52 #[.pointer (some ⟨p,0,none⟩),.agg #[.int .i64 K,.int .i64 a0,.int .i64 a1,.int .i64 a2,.int .i64 a3,.int .i64 a4,.int .i64 a5,.int .i64 a6,.int .i64 a7]] w (WRet p (takeL sl) L F w (.tuple #[.agg #[.int .i64 (takeK sl),.int .i64 (takeG sl)],.int .i64 (takeE sl)])):=by
 have h1:=fun w => checkBeast_any K a0 a1 a2 a3 a4 a5 a6 a7 w
 rw [show beastE K [a0,a1,a2,a3,a4,a5,a6,a7] = beastZ (K,a0,a1,a2,a3,a4,a5,a6,a7) from rfl,hb] at h1
 have hq : (takeE sl == 0) = false:=by simpa using ht
 have htl : takeL sl = sl:=by
  unfold takeE at ht;unfold takeL
  cases hf : sl.findIdx? freeB with
  | some k => rw [hf] at ht;simp at ht
  | none =>
   rw [hf] at ht
   simp only at ht ⊢
   by_cases h60 : sl.length = 60
   ·rw [if_pos h60]
   ·rw [if_neg h60] at ht;simp at ht
 obtain ⟨w0,hw0,hb0,hz0,hz1,hs0⟩:=box2 w (.cells #[.int .i64 K,.int .i64 a0,.int .i64 a1,.int .i64 a2,.int .i64 a3,.int .i64 a4,.int .i64 a5,.int .i64 a6,.int .i64 a7] 45) (.cells #[.int .i64 0,.int .i64 0] 47)
 obtain ⟨q0,q1,q2,q3,q4,q5,q6,q7,q8,ql⟩:=cells9 hz0
 have hFlt:=h.lt
 obtain ⟨ps,mt,mp,tb,rw,pl,FS,Fs,c,hW,hC,hO,rfl⟩:=h
 obtain ⟨HW,HC,HO,H1,Hb0,Hz1,Hs0,Htl,HFlt⟩:=hid9 hW hC hO h1 hb0 hz1 hs0 htl hFlt
 clear hW hC hO h1 hb0 hz1 hs0 htl hFlt
 clear hb hz0 ht
 go_enter Tryz.func52,Tryz.ntmps52
 go_wp2_with fail
 clear hw0
 refine (H1.out _).mono ?_
 rintro e w1 ⟨rfl,hb1⟩
 have hb01:=Hb0.out.trans (hb1.mono Hb0.out.size)
 have hW1:=HW.out.below hb01
 have e0:=blk_cell hW1.blk 0
 simp only [eA,eZ,eS] at e0
 have hpl:=blk_lt hW1.blk
 have hy1:=(Mod.ofBelow hb1).keep Hz1.out (by simp)
 have H2:=Lib.hid (take_any ps sl FS w1 hW1.sl HO.out.ok)
 obtain ⟨Hb01,HW1,Hy1⟩:=hid3 hb01 hW1 hy1
 clear hb01 hW1 hy1
 clear hb1 q0 q1 q2 q3 q4 q5 q6 q7 q8 ql
 go_wp2_with fail
 refine H2.out.mono ?_
 rintro e w2 ⟨rfl,F2,hs2,hT2⟩
 obtain ⟨hW2,hT⟩:=HW1.out.turnSl hs2 hT2
 have hFS : ∀ y,w.heap.size ≤ y → y ∉ FS:=fun y hy e => by have:=HFlt.out y (mem_wF.2 (.inr (.inr (.inr (.inl e)))));omega
 have hy2:=hT2.mod.keep Hy1.out (hFS _ (by omega))
 obtain ⟨r0,r1,rl⟩:=cells2 hy2
 have f0:=blk_free hy2 0
 have f1:=blk_free hy2 1
 have hs0:=Hs0.out
 have hb:=Hb01.out
 have hl1:=blk_lt Hy1.out
 rw [Htl.out] at hW2
 have HFin:=Lib.hid (fun w9 (hm : Mod [w.heap.size + 1] w2 w9) => rep_fin hb (Z:=[w.heap.size + 1]) (by simp;omega) HFlt.out ⟨ps,mt,mp,tb,rw,pl,F2,Fs,_,hW2,HC.out,HO.out,rfl⟩ hT hm)
 clear hs2 hT2 hW2 hT hFS hy2 e0 hs0 hb
 go_wp2
 refine bodyPost_ret (v:=.tuple #[.agg #[.int .i64 (takeK sl),.int .i64 (takeG sl)],.int .i64 (takeE sl)]) (by unfold results;try go_simp) rfl ?_
 rw [Htl.out]
 refine ⟨rfl,_,HFin.out _ ?_⟩
 refine Mod.alloc ?_ _
 repeat (refine Mod.setCell ?_ (.inl (by simp)) _)
 exact Mod.refl _ _
set_option maxRecDepth 20000 in
set_option maxHeartbeats 4000000 in
theorem spawn_ok (h : RepW w p sl L F) (K a0 a1 a2 a3 a4 a5 a6 a7 : Int) (hb : beastZ (K,a0,a1,a2,a3,a4,a5,a6,a7) = 0) (ht : takeE sl = 0) :
  Calls Tryz.prog 52 #[.pointer (some ⟨p,0,none⟩),.agg #[.int .i64 K,.int .i64 a0,.int .i64 a1,.int .i64 a2,.int .i64 a3,.int .i64 a4,.int .i64 a5,.int .i64 a6,.int .i64 a7]] w (WRet p (takeL sl) (insR L ((takeK sl,takeG sl),K,a0,a1,a2,a3,a4,a5,a6,a7)) F w (.tuple #[.agg #[.int .i64 (takeK sl),.int .i64 (takeG sl)],.int .i64 0])):=by
 have h1:=fun w => checkBeast_any K a0 a1 a2 a3 a4 a5 a6 a7 w
 rw [show beastE K [a0,a1,a2,a3,a4,a5,a6,a7] = beastZ (K,a0,a1,a2,a3,a4,a5,a6,a7) from rfl,hb] at h1
 obtain ⟨w0,hw0,hb0,hz0,hz1,hs0⟩:=box2 w (.cells #[.int .i64 K,.int .i64 a0,.int .i64 a1,.int .i64 a2,.int .i64 a3,.int .i64 a4,.int .i64 a5,.int .i64 a6,.int .i64 a7] 45) (.cells #[.int .i64 0,.int .i64 0] 47)
 obtain ⟨q0,q1,q2,q3,q4,q5,q6,q7,q8,ql⟩:=cells9 hz0
 have hFlt:=h.lt
 obtain ⟨ps,mt,mp,tb,rw,pl,FS,Fs,c,hW,hC,hO,rfl⟩:=h
 obtain ⟨k,hk60,hk,hkn,-⟩:=take_spec hO.ok ht
 have hTk:=take_any ps sl FS
 unfold TakePost at hTk
 rw [ht,hk] at hTk
 rw [hk]
 have hO2:=hO.spawn ht hb
 rw [hk] at hO2
 generalize takeK sl = tk at *
 generalize takeG sl = tg at *
 obtain ⟨HW,HC,HO,H1,Hb0,Hz0,Hz1,Hs0,HFlt,HTk,HO2,Hkn,Hb,Hk60⟩:=hid14 hW hC hO h1 hb0 hz0 hz1 hs0 hFlt hTk hO2 hkn hb hk60
 clear hW hC hO h1 hb0 hz0 hz1 hs0 hFlt hTk hO2 hkn hb hk60
 clear ht hk
 go_enter Tryz.func52,Tryz.ntmps52
 go_wp2_with fail
 clear hw0
 refine (H1.out _).mono ?_
 rintro e w1 ⟨rfl,hb1⟩
 have hb01:=Hb0.out.trans (hb1.mono Hb0.out.size)
 have hW1:=HW.out.below hb01
 have e0:=blk_cell hW1.blk 0
 simp only [eA,eZ,eS] at e0
 have hpl:=blk_lt hW1.blk
 have hy0:=(Mod.ofBelow hb1).keep Hz0.out (by simp)
 have hy1:=(Mod.ofBelow hb1).keep Hz1.out (by simp)
 have H2:=Lib.hid (HTk.out w1 hW1.sl HO.out.ok)
 have hsz01 : w0.heap.size ≤ w1.heap.size:=hb1.size
 obtain ⟨Hb01,HW1,Hy0,Hy1⟩:=hid4 hb01 hW1 hy0 hy1
 clear hb01 hW1 hy0 hy1
 clear hb1 q0 q1 q2 q3 q4 q5 q6 q7 q8 ql
 go_wp2_with fail
 refine H2.out.mono ?_
 rintro e w2 ⟨rfl,F2,hs2,hT2⟩
 obtain ⟨hW2,hT⟩:=HW1.out.turnSl hs2 hT2
 have hFS : ∀ y,w.heap.size ≤ y → y ∉ FS:=fun y hy e => by have:=HFlt.out y (mem_wF.2 (.inr (.inr (.inr (.inl e)))));omega
 obtain ⟨w3,hw3,hb3,hx3,hs3⟩:=box1 w2 (.cells #[.int .i64 (k : Int),.int .i64 tg] 47)
 have hy2:=(Mod.ofBelow hb3).keep (hT2.mod.keep Hy0.out (hFS _ (by omega))) (by simp)
 have hy3:=(Mod.ofBelow hb3).keep (hT2.mod.keep Hy1.out (hFS _ (by omega))) (by simp)
 obtain ⟨q0,q1,q2,q3,q4,q5,q6,q7,q8,ql⟩:=cells9 hy2
 obtain ⟨r0,r1,rl⟩:=cells2 hx3
 have hT3:=hT.below hb3
 have hW3:=hW2.below hb3
 have H4:=Lib.hid (lay_core (L:=L) hW3 HC.out (fun y hy => hy) HO.out.len k (by have:=Hk60.out;omega) tg K a0 a1 a2 a3 a4 a5 a6 a7 Hb.out (fun y hy e => Hkn.out y.1 (by rw [← HO.out.hs];exact List.mem_map.2 ⟨y,hy,rfl⟩) e))
 have hlw:=hW2.lt
 have hsz12 : w1.heap.size ≤ w2.heap.size:=hT2.mod.size
 obtain ⟨HT3,HW3,Hx3,Hy3,Hlw,Hs3⟩:=hid6 hT3 hW3 hx3 hy3 hlw hs3
 clear hT3 hW3 hx3 hy3 hlw hs3
 clear hs2 hT2 hW2 hT hFS hy2 e0 hb3
 go_wp2_with fail
 clear hw3
 refine H4.out.mono ?_
 rintro e w4 ⟨rfl,tb4,rw4,pl4,FS4,Fs4,c4,hW4,hC4,hT4⟩
 have hno : ∀ y,y ∈ wF p mt mp tb F2 Fs → (w.heap.size ≤ y ∧ y < w1.heap.size → False):=fun y hy ⟨e1,e2⟩ => by
  rcases HT3.out.new y hy with h1 | h1
  ·have:=HFlt.out y h1;omega
  ·omega
 have hs0:=Hs0.out
 have hl1:=blk_lt Hy1.out
 have hx4:=hT4.mod.keep Hx3.out (fun e => by have:=Hlw.out _ e;omega)
 have hy4:=hT4.mod.keep Hy3.out (fun e => hno _ e ⟨by omega,by omega⟩)
 obtain ⟨r0,r1,rl⟩:=cells2 hx4
 obtain ⟨u0,u1,ul⟩:=cells2 hy4
 have f0:=blk_free hy4 0
 have f1:=blk_free hy4 1
 have hsw2 : w0.heap.size ≤ w2.heap.size:=by omega
 have n1 : w2.heap.size ≠ w.heap.size + 1:=by omega
 have n2 : w.heap.size + 1 ≠ w2.heap.size:=by omega
 have hR4 : RepW w4 p (takeL sl) (insR L (((k : Int),tg),K,a0,a1,a2,a3,a4,a5,a6,a7)) (wF p mt mp tb4 FS4 Fs4):=⟨ps,mt,mp,tb4,rw4,pl4,FS4,Fs4,c4,hW4,hC4.congr (fun x => mem_insR.symm),HO2.out,rfl⟩
 have hb:=Hb01.out
 have HFin:=Lib.hid (fun w9 (hm : Mod [w.heap.size + 1] w4 w9) => rep_fin hb (Z:=[w.heap.size + 1]) (by simp;omega) HFlt.out hR4 (HT3.out.trans hT4) hm)
 clear hW4 hC4 hT4 hno hx4 hy4 hs0 hR4 hb q0 q1 q2 q3 q4 q5 q6 q7 q8 ql
 go_wp2
 refine bodyPost_ret (v:=.tuple #[.agg #[.int .i64 (k : Int),.int .i64 tg],.int .i64 0]) (by unfold results;try go_simp) rfl ?_
 refine ⟨rfl,_,HFin.out _ ?_⟩
 repeat (refine Mod.setCell ?_ (.inl (by simp)) _)
 exact Mod.refl _ _
end
end Go.Proofs.YtfdillpofciicaaGreatDoor
namespace Go.Proofs.YtfdillpofciicaaGreatDoor
open Go Go.RowKit
attribute [local go_sem] AllFrom.cons_eq AllFrom.nil_eq putF_nil putF_cons wantedL_none wantedL_some OpGoalT OpGoalV OpGoalQ OpGoalA YieldsR preF_nil preF_cons
theorem killL_none {L : List Rw} {h : Hd} (hi : idxL L h = none) : killL L h = L:=by
 unfold killL;rw [List.filter_eq_self];intro x hx;simpa using idx_none hi x hx
section
variable {w : World} {p : Nat} {sl : Sl} {L : List Rw} {F : List Nat}
set_option maxRecDepth 20000 in
set_option maxHeartbeats 4000000 in
theorem wkill_dead (h : RepW w p sl L F) (s g : Int) (hd : liveB sl s g = false) :
  Calls Tryz.prog 99 #[.pointer (some ⟨p,0,none⟩),.agg #[.int .i64 s,.int .i64 g]] w (fun e w' => e = .returned (.int .i64 7) ∧ Below w.heap.size w w'):=by
 obtain ⟨w0,hw0,hb0,hz0,hs0⟩:=box1 w (.cells #[.int .i64 s,.int .i64 g] 47)
 obtain ⟨ps,mt,mp,tb,rw,pl,FS,Fs,c,hW,hC,hO,rfl⟩:=h
 have hW0:=hW.below hb0
 have e0:=blk_cell hW0.blk 0
 simp only [eA,eZ,eS] at e0
 have hpl:=blk_lt hW0.blk
 obtain ⟨q0,q1,ql⟩:=cells2 hz0
 have h1:=live_any ps sl FS s g w0.drew (hW0.below below_drew).sl
 rw [hd] at h1
 obtain ⟨H1,Hb0,Hs0⟩:=hid3 h1 hb0 hs0
 clear h1 hb0 hs0
 clear hz0 hW hW0 hC hO hd
 go_enter Tryz.func99,Tryz.ntmps99
 go_wp2_with fail
 clear hw0
 refine wp_planR 5 [0] [some 5,some 6,some 7,some 8,some 9,some 10,some 11] [[],[0],[0,1],[0,1,2],[],[0,1,2,3,4],[0,1,2,3,4,5]] [0,1,2,3,4] mixed rfl (by kernel_rfl) (by decide) (by decide) rfl ?_
 iterate 5 apply Exists.intro
 refine ⟨rfl,?_,?_⟩
 ·simp only [tS,List.take_zero,AllFrom.cons_eq,AllFrom.nil_eq,OpGoalQ]
  refine ⟨?_,?_,?_,?_,?_,trivial⟩
  all_goals (intro σ hp;(try simp only [gZ,gS,mC,mN,preF_cons,preF_nil,isV,and_true] at hp);(first | (have hq : True:=hp;clear hq hp) | skip))
  all_goals (go_simp;exact ⟨rfl,rfl⟩)
 intro σ hp
 simp only [gZ,gS,mC,mN,preF_cons,preF_nil,isV,and_true] at hp
 simp only [dS,List.drop_zero]
 go_simp
 clear hp
 go_wp2_with fail
 refine H1.out.mono ?_
 rintro e w1 ⟨rfl,hb1⟩
 have hB:=Lib.hid (Hb0.out.trans ((below_drew.trans hb1).mono Hb0.out.size))
 clear hb1
 go_wp2_with fail
 refine ⟨rfl,?_⟩
 go_wp2
 go_ret
 exact ⟨rfl,hB.out⟩
set_option maxRecDepth 20000 in
set_option maxHeartbeats 4000000 in
theorem wkill_live (h : RepW w p sl L F) (s g : Int) (hd : liveB sl s g = true) :
  Calls Tryz.prog 99 #[.pointer (some ⟨p,0,none⟩),.agg #[.int .i64 s,.int .i64 g]] w (WRet p (freeL sl s g) (killL L (s,g)) F w (.int .i64 0)):=by
 obtain ⟨w0,hw0,hb0,hz0,hs0⟩:=box1 w (.cells #[.int .i64 s,.int .i64 g] 47)
 have hFlt:=h.lt
 obtain ⟨ps,mt,mp,tb,rw,pl,FS,Fs,c,hW,hC,hO,rfl⟩:=h
 have hW0:=hW.below hb0
 have e0:=blk_cell hW0.blk 0
 simp only [eA,eZ,eS] at e0
 have hpl:=blk_lt hW0.blk
 obtain ⟨q0,q1,ql⟩:=cells2 hz0
 have h1:=live_any ps sl FS s g w0.drew (hW0.below below_drew).sl
 rw [hd] at h1
 obtain ⟨x,hxL,hx⟩:=(hO.live s g).1 hd
 obtain ⟨xh,K,a0,a1,a2,a3,a4,a5,a6,a7⟩:=x
 simp only at hx
 subst hx
 have hO2:=hO.kill hd
 have hfe : freeE sl s g = 0:=by unfold freeE;rw [if_pos hd]
 obtain ⟨H1,Hb0,Hs0,HW,HC,HO,Hz0,HFlt,HxL,HO2,Hfe⟩:=hid11 h1 hb0 hs0 hW hC hO hz0 hFlt hxL hO2 hfe
 clear h1 hb0 hs0 hW hC hO hz0 hFlt hxL hO2 hfe
 clear hW0 hd
 go_enter Tryz.func99,Tryz.ntmps99
 go_wp2_with fail
 clear hw0
 refine wp_planR 5 [0] [some 5,some 6,some 7,some 8,some 9,some 10,some 11] [[],[0],[0,1],[0,1,2],[],[0,1,2,3,4],[0,1,2,3,4,5]] [0,1,2,3,4] mixed rfl (by kernel_rfl) (by decide) (by decide) rfl ?_
 iterate 5 apply Exists.intro
 refine ⟨rfl,?_,?_⟩
 ·simp only [tS,List.take_zero,AllFrom.cons_eq,AllFrom.nil_eq,OpGoalQ]
  refine ⟨?_,?_,?_,?_,?_,trivial⟩
  all_goals (intro σ hp;(try simp only [gZ,gS,mC,mN,preF_cons,preF_nil,isV,and_true] at hp);(first | (have hq : True:=hp;clear hq hp) | skip))
  all_goals (go_simp;exact ⟨rfl,rfl⟩)
 intro σ hp
 simp only [gZ,gS,mC,mN,preF_cons,preF_nil,isV,and_true] at hp
 simp only [dS,List.drop_zero]
 go_simp
 clear hp
 go_wp2_with fail
 refine H1.out.mono ?_
 rintro e w1 ⟨rfl,hb1⟩
 have hb01 : Below w0.heap.size w0 w1:=below_drew.trans hb1
 have hW1:=HW.out.below (Hb0.out.trans (hb01.mono Hb0.out.size))
 have hz1:=(Mod.ofBelow hb01).keep Hz0.out (by simp)
 have H2:=Lib.hid (lift_core (L:=L) hW1 HC.out (fun y hy => hy) HO.out.len (fun y hy => HO.out.slot hy) (fun y hy => HO.out.be y hy) s g K a0 a1 a2 a3 a4 a5 a6 a7 HxL.out)
 clear q0 q1 ql e0 hpl
 obtain ⟨q0,q1,ql⟩:=cells2 hz1
 have hsz : w0.heap.size ≤ w1.heap.size:=hb01.size
 obtain ⟨Hb01,HW1,Hz1⟩:=hid3 hb01 hW1 hz1
 clear hb01 hW1 hz1
 clear hb1
 go_wp2_with fail
 refine ⟨rfl,?_⟩
 go_wp2_with fail
 refine H2.out.mono ?_
 rintro e w2 ⟨rfl,tb2,rw2,pl2,FS2,Fs2,c2,hW2,hC2,hT2⟩
 have hz2:=hT2.mod.keep Hz1.out (fun e => by have:=HFlt.out _ e;omega)
 have e0:=blk_cell hW2.blk 0
 simp only [eA,eZ,eS] at e0
 have hpl:=blk_lt hW2.blk
 clear q0 q1 ql
 obtain ⟨q0,q1,ql⟩:=cells2 hz2
 have h3:=free_any ps sl FS2 s g w2.drew (hW2.below below_drew).sl HO.out.ok
 rw [Hfe.out] at h3
 obtain ⟨H3,HW2,HC2,HT2⟩:=hid4 h3 hW2 hC2 hT2
 clear h3 hW2 hC2 hT2
 clear hz2
 go_wp2_with fail
 refine wp_planR 5 [0] [some 15,some 16,some 17,some 18,some 19,some 20,some 4] [[],[0],[0,1],[0,1,2],[],[0,1,2,3,4],[0,1,2,3,4,5]] [0,1,2,3,4] mixed rfl (by kernel_rfl) (by decide) (by decide) rfl ?_
 iterate 5 apply Exists.intro
 refine ⟨rfl,?_,?_⟩
 ·simp only [tS,List.take_zero,AllFrom.cons_eq,AllFrom.nil_eq,OpGoalQ]
  refine ⟨?_,?_,?_,?_,?_,trivial⟩
  all_goals (intro σ hp;(try simp only [gZ,gS,mC,mN,preF_cons,preF_nil,isV,and_true] at hp);(first | (have hq : True:=hp;clear hq hp) | skip))
  all_goals (go_simp;exact ⟨rfl,rfl⟩)
 intro σ hp
 simp only [gZ,gS,mC,mN,preF_cons,preF_nil,isV,and_true] at hp
 simp only [dS,List.drop_zero]
 go_simp
 clear hp
 go_wp2_with fail
 refine H3.out.mono ?_
 rintro e w3 ⟨rfl,hs3,hm3⟩
 obtain ⟨hW3,hT3⟩:=(HW2.out.below below_drew).turnSl hs3 ⟨hm3,fun _ h => .inl h⟩
 have hR : RepW w3 p (freeL sl s g) (killL L (s,g)) _:=⟨ps,mt,mp,tb2,rw2,pl2,FS2,Fs2,_,hW3,HC2.out.congr (fun y => ?_),HO2.out,rfl⟩
 have hT:=((Turns.after (Hb0.out.trans (Hb01.out.mono Hb0.out.size)) HT2.out).trans (Turns.ofBelow below_drew)).trans hT3
 obtain ⟨HR,HT⟩:=hid2 hR hT
 clear hR hT
 clear hs3 hm3 hW3 hT3
 go_wp2_with fail
 refine ⟨rfl,?_⟩
 go_wp2
 go_ret
 exact ⟨rfl,_,HR.out,HT.out⟩
 constructor
 ·rintro ⟨h1,h2⟩
  exact List.mem_filter.2 ⟨h1,by simp only [ne_eq,decide_not,Bool.not_eq_true',decide_eq_false_iff_not];exact fun e => h2 (HO.out.one h1 HxL.out (by rw [e]))⟩
 ·intro hy
  obtain ⟨h1,h2⟩:=List.mem_filter.1 hy
  refine ⟨h1,fun e => ?_⟩
  subst e
  simp at h2
theorem wkill_any (h : RepW w p sl L F) (s g : Int) :
  Calls Tryz.prog 99 #[.pointer (some ⟨p,0,none⟩),.agg #[.int .i64 s,.int .i64 g]] w (WRet p (freeL sl s g) (killL L (s,g)) F w (.int .i64 (killE L (s,g)))):=by
 rcases h.ok.idx s g with ⟨h1,i,h2⟩ | ⟨h1,h2⟩
 ·rw [show killE L (s,g) = 0 by unfold killE;rw [h2]]
  exact wkill_live h s g h1
 ·rw [show killE L (s,g) = 7 by unfold killE;rw [h2],killL_none h2,show freeL sl s g = sl by unfold freeL;rw [if_neg (by rw [h1];simp)]]
  refine (wkill_dead h s g h1).mono ?_
  rintro e w' ⟨rfl,hb⟩
  exact ⟨rfl,F,h.below hb,Turns.ofBelow hb⟩
theorem spawn_any (h : RepW w p sl L F) (K a0 a1 a2 a3 a4 a5 a6 a7 : Int) :
  Calls Tryz.prog 52 #[.pointer (some ⟨p,0,none⟩),.agg #[.int .i64 K,.int .i64 a0,.int .i64 a1,.int .i64 a2,.int .i64 a3,.int .i64 a4,.int .i64 a5,.int .i64 a6,.int .i64 a7]] w (WRet p (spawnS sl (K,a0,a1,a2,a3,a4,a5,a6,a7)) (spawnL sl L (K,a0,a1,a2,a3,a4,a5,a6,a7)) F w (.tuple #[.agg #[.int .i64 (spawnH sl (K,a0,a1,a2,a3,a4,a5,a6,a7)).1,.int .i64 (spawnH sl (K,a0,a1,a2,a3,a4,a5,a6,a7)).2],.int .i64 (spawnE sl (K,a0,a1,a2,a3,a4,a5,a6,a7))])):=by
 by_cases hb : beastZ (K,a0,a1,a2,a3,a4,a5,a6,a7) = 0
 ·have e1 : spawnS sl (K,a0,a1,a2,a3,a4,a5,a6,a7) = takeL sl:=by unfold spawnS;rw [if_neg (by simpa using hb)]
  have e2 : spawnH sl (K,a0,a1,a2,a3,a4,a5,a6,a7) = (takeK sl,takeG sl):=by unfold spawnH;rw [if_neg (by simpa using hb)]
  have e3 : spawnE sl (K,a0,a1,a2,a3,a4,a5,a6,a7) = takeE sl:=by unfold spawnE;rw [if_neg (by simpa using hb)]
  by_cases ht : takeE sl = 0
  ·rw [e1,e2,show spawnL sl L (K,a0,a1,a2,a3,a4,a5,a6,a7) = insR L ((takeK sl,takeG sl),K,a0,a1,a2,a3,a4,a5,a6,a7) by unfold spawnL;rw [e3,if_pos ht],e3,ht]
   exact spawn_ok h K a0 a1 a2 a3 a4 a5 a6 a7 hb ht
  ·rw [e1,e2,show spawnL sl L (K,a0,a1,a2,a3,a4,a5,a6,a7) = L by unfold spawnL;rw [e3,if_neg ht],e3]
   exact spawn_full h K a0 a1 a2 a3 a4 a5 a6 a7 hb ht
 ·have e1 : spawnS sl (K,a0,a1,a2,a3,a4,a5,a6,a7) = sl:=by unfold spawnS;rw [if_pos (by simpa using hb)]
  have e2 : spawnH sl (K,a0,a1,a2,a3,a4,a5,a6,a7) = (0,0):=by unfold spawnH;rw [if_pos (by simpa using hb)]
  have e3 : spawnE sl (K,a0,a1,a2,a3,a4,a5,a6,a7) = beastZ (K,a0,a1,a2,a3,a4,a5,a6,a7):=by unfold spawnE;rw [if_pos (by simpa using hb)]
  rw [e1,e2,show spawnL sl L (K,a0,a1,a2,a3,a4,a5,a6,a7) = L by unfold spawnL;rw [e3,if_neg hb],e3]
  exact spawn_bad h K a0 a1 a2 a3 a4 a5 a6 a7 hb
end
end Go.Proofs.YtfdillpofciicaaGreatDoor
namespace Go.Proofs.YtfdillpofciicaaGreatDoor
open Go Go.RowKit
structure PostK (i : Nat) (n : List Nat) (c : Value) (J : Value → World → Prop) (v : Value) (w : World) : Prop where
 val : i ∈ n ∨ v = c
 inv : J v w
section
variable {P : Program}
def vpK (n : List Nat) : Nat → List Value → List (Value → World → Prop)
 | _,[] => []
 | k,v :: vs => (fun u _ => k ∈ n ∨ u = v) :: vpK n (k + 1) vs
theorem vpK_get (n : List Nat) : ∀ (vs : List Value) (k i : Nat),i < vs.length → (vpK n k vs).getD i (fun _ _ => True) = fun u _ => k + i ∈ n ∨ u = vs.getD i undef
 | [],_,_,h => by simp at h
 | v :: vs,k,0,_ => rfl
 | v :: vs,k,i + 1,h => by
  have:=vpK_get n vs (k + 1) i (by simpa using h)
  rw [show k + 1 + i = k + (i + 1) by omega] at this
  exact this
theorem keepAll_vpK {n : List Nat} {σ : Nat → Value} {L : Nat → Bool} {w w' : World} : ∀ (vs : List Value) (k j : Nat),KeepAll σ L w w' k (vpK n j vs)
 | [],_,_ => trivial
 | _ :: vs,k,j => ⟨fun _ h => h,keepAll_vpK vs (k + 1) (j + 1)⟩
def PreK (n : List Nat) (vs : List Value) (σ : Nat → Value) : List Nat → Prop
 | [] => True
 | j :: l => (j ∈ n ∨ σ j = vs.getD j undef) ∧ PreK n vs σ l
theorem preK_nil {n : List Nat} {vs : List Value} {σ : Nat → Value} : PreK n vs σ [] = True:=rfl
theorem preK_cons {n : List Nat} {vs : List Value} {σ : Nat → Value} {j : Nat} {l : List Nat} : PreK n vs σ (j :: l) = ((j ∈ n ∨ σ j = vs.getD j undef) ∧ PreK n vs σ l):=rfl
theorem preK_of {n : List Nat} {vs : List Value} {σ : Nat → Value} {w : World} : ∀ (l : List Nat),(∀ j ∈ l,j < vs.length) → PreF (vpK n 0 vs) σ w l → PreK n vs σ l
 | [],_,_ => trivial
 | j :: l,hl,h => by
  refine ⟨?_,preK_of l (fun x hx => hl x (by simp [hx])) h.2⟩
  have h1:=h.1
  rw [vpK_get n vs 0 j (hl j (by simp))] at h1
  simpa using h1
def OpGoalK (P : Program) (dsts : List (Option Tmp)) (pre : List (List Nat)) (vs : List Value) (n : List Nat) (I : (Nat → Bool) → (Nat → Value) → World → Prop) (a0 : Act) (i : Nat) (o : Oper) : Prop :=
 ∀ (L : Nat → Bool) (σ : Nat → Value) (w : World),L i = false → (∀ j ∈ pre.getD i [],L j = true) → (∀ k,i ∈ pre.getD k [] → L k = false) → I L σ w → PreK n vs σ (pre.getD i []) →
  if wantedL dsts (putF dsts σ (pre.getD i []) a0) o.guard = true then YieldsR P o (putF dsts σ (pre.getD i []) a0).eval w (PostK i n (vs.getD i undef) (fun v => I (upd L i) (updv σ i v)))
  else PostK i n (vs.getD i undef) (fun v => I (upd L i) (updv σ i v)) undef w
theorem wp_planK {Q : Exit → Act → World → Prop} {id : Nat} {l : List Oper} {a0 : Act} {w0 : World} (n : List Nat) (m : Nat) (fl : List Nat) (dsts : List (Option Tmp)) (pre : List (List Nat)) (is : List Nat) (I : (Nat → Bool) → (Nat → Value) → World → Prop)
  (hm : P.follows .mixedOrders = true) (hd : l.map (·.dst) = dsts) (hc : planOk l.toArray pre = true) (hT : tailOkB l pre m fl = true) (hmn : m ≤ l.length) (hpm : (pre.take m).all (fun q => q.all (fun j => decide (j < m))) = true)
  (h0 : I (fun _ => false) (fun _ => undef) w0.drew) (his : List.range m = is)
  (h : ExL m fun vs => vs.length = m ∧ AllFrom (OpGoalK P dsts pre vs n I a0) 0 (l.take m) ∧
   (∀ (L : Nat → Bool) (σ : Nat → Value) w,(∀ i ∈ is,L i = true) → I L σ w → PreK n vs σ is → wpList P l.toArray (OnlyN Q) (l.drop m) (putF dsts σ is a0) w)) :
  (Code.region id l.toArray true).wp P Q a0 w0:=by
 obtain ⟨vs,hl,h1,h2⟩:=h.out
 have hpre : ∀ i,i < m → ∀ j ∈ pre.getD i [],j < vs.length:=by
  intro i hi j hj
  rw [hl]
  cases hg : pre[i]? with
  | none => rw [List.getD_eq_getElem?_getD,hg] at hj;simp at hj
  | some q =>
   rw [List.getD_eq_getElem?_getD,hg] at hj
   simp only [Option.getD_some] at hj
   have hq : q ∈ pre.take m:=by
    refine List.mem_of_getElem? (i:=i) ?_
    rw [List.getElem?_take,if_pos hi];exact hg
   have:=List.all_eq_true.1 (List.all_eq_true.1 hpm q hq) j hj
   simpa using this
 refine wp_planF m fl dsts pre is 0 (fun _ => vpK n 0 vs) I hm hd hc hT hmn h0 his ?_
 show _ ∧ _
 refine ⟨allFrom_imp _ _ (fun j o hj hp => ?_) h1,fun L σ w hL hI hq => h2 L σ w hL hI (preK_of is (fun i hi => by rw [hl];rw [← his] at hi;simpa using hi) hq)⟩
 have hjm : j < m:=by
  rcases Nat.lt_or_ge j m with h | h
  ·exact h
  ·rw [List.getElem?_eq_none (by rw [List.length_take];omega)] at hj;cases hj
 intro L σ w hL1 hL2 hL3 hI hq
 simp only [Nat.zero_add] at hp hL1 hL2 hL3 hq ⊢
 have:=hp L σ w hL1 hL2 hL3 hI (preK_of _ (hpre j hjm) hq)
 have key : ∀ v w',PostK j n (vs.getD j undef) (fun v => I (upd L j) (updv σ j v)) v w' → PostV ((vpK n 0 vs).getD j (fun _ _ => True)) (fun v => I (upd L j) (updv σ j v)) (fun w' => KeepAll σ L w w' 0 (vpK n 0 vs)) v w':=fun v w' k =>
  ⟨by rw [vpK_get n vs 0 j (by omega),Nat.zero_add];exact k.val,k.inv,keepAll_vpK _ _ _⟩
 split
 ·next hw => rw [if_pos hw] at this;exact this.mono key
 ·next hw => rw [if_neg hw] at this;exact key _ _ this
end
end Go.Proofs.YtfdillpofciicaaGreatDoor
namespace Go.Proofs.YtfdillpofciicaaGreatDoor
open Go Go.RowKit
attribute [local go_sem] AllFrom.cons_eq AllFrom.nil_eq putF_nil putF_cons wantedL_none wantedL_some OpGoalT OpGoalV OpGoalQ OpGoalA OpGoalK YieldsR preF_nil preF_cons
structure IGet (n m : Nat) (w2 : World) (zs row : Array Value) (T : TypeId) (L : Nat → Bool) (σ : Nat → Value) (V : World) : Prop where
 b : Below w2.heap.size w2 V
 blk : L n = true → ∃ g,σ n = .pointer (some ⟨g,0,none⟩) ∧ w2.heap.size ≤ g ∧ V.heap[g]? = some (.cells (if L m = true then row else zs) T (0,0))
section
variable {n m : Nat} {w2 V V' : World} {zs row : Array Value} {T : TypeId} {L : Nat → Bool} {σ : Nat → Value}
theorem IGet.start (h : Below w2.heap.size w2 V) : IGet n m w2 zs row T (fun _ => false) σ V:=⟨h,fun e => by cases e⟩
theorem IGet.read (h : IGet n m w2 zs row T L σ V) {i : Nat} (h1 : i ≠ n) (h2 : i ≠ m) (v : Value) : IGet n m w2 zs row T (upd L i) (updv σ i v) V:=by
 have e1 : upd L i n = L n:=by unfold upd;simp [Ne.symm h1]
 have e2 : upd L i m = L m:=by unfold upd;simp [Ne.symm h2]
 refine ⟨h.b,fun e => ?_⟩
 rw [e1] at e
 rw [e2]
 obtain ⟨g,q1,q2,q3⟩:=h.blk e
 exact ⟨g,by unfold updv;rw [if_neg (Ne.symm h1)];exact q1,q2,q3⟩
theorem IGet.step (h : IGet n m w2 zs row T L σ V) (hb : Below V.heap.size V V') : IGet n m w2 zs row T L σ V' :=
 ⟨h.b.trans (hb.mono h.b.size),fun e => by obtain ⟨g,q1,q2,q3⟩:=h.blk e;exact ⟨g,q1,q2,(Mod.ofBelow hb).keep q3 (by simp)⟩⟩
theorem IGet.made (h : IGet n m w2 zs row T L σ V) (hnm : n ≠ m) (hm : L m = false) : IGet n m w2 zs row T (upd L n) (updv σ n (.pointer (some ⟨V.heap.size,0,none⟩))) (V.alloc (.cells zs T)):=by
 refine ⟨h.b.alloc h.b.size _,fun _ => ⟨V.heap.size,by unfold updv;rw [if_pos rfl],h.b.size,?_⟩⟩
 have e2 : upd L n m = false:=by unfold upd;simp [Ne.symm hnm,hm]
 rw [e2];exact heap_alloc_new V _
theorem IGet.stored {zl rl : List Value} (h : IGet n m w2 zl.toArray rl.toArray T L σ V) (hnm : n ≠ m) (hn : L n = true) (hm : L m = false) (hl : rl.length = zl.length) : ∃ g,σ n = .pointer (some ⟨g,0,none⟩) ∧ V.there g 0 rl.length ∧ ∀ v,IGet n m w2 zl.toArray rl.toArray T (upd L m) (updv σ m v) (V.setCells g 0 rl):=by
 obtain ⟨g,q1,q2,q3⟩:=h.blk hn
 rw [hm] at q3
 simp only [Bool.false_eq_true,if_false] at q3
 have hst:=setCells_block (w:=V) rl 0 V zl q3
 rw [setL_all rl zl hl] at hst
 have hmod:=mod_setCells (F:=[g]) (g:=g) (.inl (by simp)) rl 0 V (Mod.refl _ V)
 refine ⟨g,q1,hl ▸ blk_there q3 (Nat.le_refl _),fun v => ⟨h.b.trans (hmod.toBelow (by simpa using q2) h.b.size),fun _ => ⟨g,by unfold updv;rw [if_neg hnm];exact q1,q2,?_⟩⟩⟩
 have e2 : upd L m m = true:=by simp [upd]
 rw [e2];exact hst
end
theorem yr_store {P : Program} {o : Oper} {ρ : Operand → Value} {w : World} {J : Value → World → Prop} (ty : TypeId) (x y : Operand) (ho : o.op = .store ty x y) (b f : Nat) (vs : List Value) (hx : ρ x = .pointer (some ⟨b,f,none⟩)) (hy : ρ y = .agg vs.toArray) (ht : w.there b f vs.length)
  (hi : (P.info? ty).map (·.size) = some vs.length) (h1 : ∀ u ∈ vs,u.oneCell' = true) (h : J undef (w.setCells b f vs)) : YieldsR P o ρ w J:=by
 unfold YieldsR execOp
 simp only [ho,hx,hy,Instr.storeAt,Instr.sureAddr,Sem.run_bind,Sem.run_pure,Result.andThen_ok,run_storeVar_mid w b f ty vs.toArray (by simpa using ht) (by simpa using hi) (all_oneCell_toArray h1)]
 simpa using h
theorem IGet.yr_stored {P : Program} {o : Oper} {ρ : Operand → Value} {J : Value → World → Prop} {n m : Nat} {w2 V : World} {zl rl : List Value} {T : TypeId} {L : Nat → Bool} {σ : Nat → Value}
  (h : IGet n m w2 zl.toArray rl.toArray T L σ V) (hnm : n ≠ m) (hn : L n = true) (hm : L m = false) (hl : rl.length = zl.length) (ty : TypeId) (x y : Operand) (ho : o.op = .store ty x y) (hx : ρ x = σ n) (hy : ρ y = .agg rl.toArray)
  (hi : (P.info? ty).map (·.size) = some rl.length) (h1 : ∀ u ∈ rl,u.oneCell' = true) (hJ : ∀ V',IGet n m w2 zl.toArray rl.toArray T (upd L m) (updv σ m undef) V' → J undef V') : YieldsR P o ρ V J:=by
 obtain ⟨g,hr,hth,hst⟩:=h.stored hnm hn hm hl
 exact yr_store ty x y ho g 0 rl (hx.trans hr) hy hth hi h1 (hJ _ (hst _))
section
variable {w : World} {p : Nat} {sl : Sl} {L : List Rw} {F : List Nat}
end
end Go.Proofs.YtfdillpofciicaaGreatDoor
namespace Go.Proofs.YtfdillpofciicaaGreatDoor
open Go.RowKit
attribute [local go_sem] AllFrom.cons_eq AllFrom.nil_eq putF_nil putF_cons wantedL_none wantedL_some OpGoalT OpGoalS OpGoalP OpGoalV YieldsR preF_nil preF_cons
variable {vL vB : Value}
end Go.Proofs.YtfdillpofciicaaGreatDoor
namespace Go.Proofs.YtfdillpofciicaaGreatDoor
open Go Go.RowKit
variable {vB : Value}
attribute [local go_sem] AllFrom.cons_eq AllFrom.nil_eq putF_nil putF_cons wantedL_none wantedL_some OpGoalT OpGoalV OpGoalQ YieldsR preF_nil preF_cons
end Go.Proofs.YtfdillpofciicaaGreatDoor
namespace Go.Proofs.YtfdillpofciicaaGreatDoor
open Go Go.RowKit
variable {vB : Value}
attribute [local go_sem] AllFrom.cons_eq AllFrom.nil_eq putF_nil putF_cons wantedL_none wantedL_some OpGoalT OpGoalV OpGoalQ YieldsR preF_nil preF_cons
theorem app_row {w : World} {ops : Array Oper} {rest : List Oper} {o : Oper} {a : Act} {Q : Exit → Act → World → Prop} (hgd : o.guard = none) (s x : Operand)
  (ho : o.op = .call { callee:=.builtin .append,args:=#[s,x],argTypes:=#[23,23] }) (base : Nat) (v : Value) (l : List Rw) (y : Rw) (ad : Addr) (c : Nat)
  (hs : a.eval s = v) (hown : w.ownsRow base 56 11 v l.length (l.flatMap rwC)) (hx : a.eval x = .slice (some ad) 1 c) (hc : ∀ j u,(rwC y)[j]? = some u → w.cell? (ad.add j) = some u)
  (hlen : l.length < 1200000000000) (hbase : base ≤ w.heap.size)
  (h : ∀ v' w',w'.ownsRow base 56 11 v' (l ++ [y]).length ((l ++ [y]).flatMap rwC) → Below base w w' → wpList Tryz.prog ops Q rest (a.put o.dst v') w') : wpList Tryz.prog ops Q (o :: rest) a w:=by
 refine app_rec (enc:=rwC) (n:=11) (z:=.agg (ints zero11).toArray) (bytes:=88) hgd s x 23 56 ho Tryz.underlying23 inf_Row rfl (by omega) (by omega) rwC_one rwC_len base v l y ad c hs hown hx hc (by omega) hbase ?_
 intro v' w' h1 h2 _
 exact h v' w' h1 ((Below.refl base w).grown h2 hbase (own_ge hown))
end Go.Proofs.YtfdillpofciicaaGreatDoor
namespace Go.Proofs.YtfdillpofciicaaGreatDoor
open Go Go.RowKit
variable {vB : Value}
attribute [local go_sem] AllFrom.cons_eq AllFrom.nil_eq putF_nil putF_cons wantedL_none wantedL_some OpGoalT OpGoalV OpGoalQ YieldsR preF_nil preF_cons
section
variable {w w1 : World} {q : Nat} {sl : Sl} {L L' : List Rw} {F : List Nat} {v : Value}
end
end Go.Proofs.YtfdillpofciicaaGreatDoor
namespace Go.Proofs.YtfdillpofciicaaGreatDoor
open Go Go.RowKit
variable {{vB : Value}}
attribute [local go_sem] AllFrom.cons_eq AllFrom.nil_eq putF_nil putF_cons wantedL_none wantedL_some OpGoalT OpGoalV OpGoalQ YieldsR preF_nil preF_cons
section
variable {w : World} {q : Nat} {sl : Sl} {L : List Rw} {F : List Nat}
theorem putE_some {h : Hd} {i : Nat} {k n : Int} (hi : idxL L h = some i) : putE L h k n = if putBad k n then 1 else 0:=by unfold putE;rw [hi]
theorem putE_none {h : Hd} {k n : Int} (hi : idxL L h = none) : putE L h k n = 7:=by unfold putE;rw [hi]
theorem putW_some {h : Hd} {i : Nat} {k n : Int} (hi : idxL L h = some i) : putW L h k n = if putBad k n then L else L.modify i (fun x => putR x k.toNat n):=by unfold putW;rw [hi]
theorem putW_none {h : Hd} {k n : Int} (hi : idxL L h = none) : putW L h k n = L:=by unfold putW;rw [hi]
theorem dropE_some {h : Hd} {i : Nat} {k : Int} (hi : idxL L h = some i) (hl : i < L.length) : dropE L h k = if k < 0 ∨ 7 < k then 1 else if hasK L[i].2.1 k.toNat = true then 0 else 5:=by unfold dropE;rw [hi];simp only;rw [List.getD_eq_getElem?_getD,List.getElem?_eq_getElem hl];rfl
theorem dropE_none {h : Hd} {k : Int} (hi : idxL L h = none) : dropE L h k = 7:=by unfold dropE;rw [hi]
theorem dropL_some {h : Hd} {i : Nat} {k : Int} (hi : idxL L h = some i) : dropL L h k = if dropE L h k = 0 then L.modify i (fun x => dropR x k.toNat) else L:=by unfold dropL;rw [hi]
theorem dropL_none {h : Hd} {k : Int} (hi : idxL L h = none) : dropL L h k = L:=by unfold dropL;rw [hi]
theorem putR_has {x : Rw} {j : Nat} {n : Int} (h : hasK x.2.1 j = true) : putR x j n = rwSet x j n:=by
 unfold putR putK;rw [if_pos h]
 obtain ⟨⟨s,g⟩,K',a0,a1,a2,a3,a4,a5,a6,a7⟩:=x
 rfl
theorem putR_not {x : Rw} {j : Nat} {n : Int} (h : hasK x.2.1 j = false) : putR x j n = rwSet (x.1,(x.2.1 + pw j,x.2.2)) j n:=by
 unfold putR putK;rw [if_neg (by rw [h];simp)]
 obtain ⟨⟨s,g⟩,K',a0,a1,a2,a3,a4,a5,a6,a7⟩:=x
 rfl
theorem dropR_eq {x : Rw} {j : Nat} : dropR x j = rwSet (x.1,(x.2.1 - pw j,x.2.2)) j 0:=by
 unfold dropR
 obtain ⟨⟨s,g⟩,K',a0,a1,a2,a3,a4,a5,a6,a7⟩:=x
 rfl
end
end Go.Proofs.YtfdillpofciicaaGreatDoor
