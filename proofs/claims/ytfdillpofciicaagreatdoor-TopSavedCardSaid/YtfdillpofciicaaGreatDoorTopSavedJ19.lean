import Derived.Test.YtfdillpofciicaaGreatDoorTopSavedJ18
import Derived.Shelf.SlSortCmp.QuietGrown
set_option linter.unusedVariables false
set_option linter.unusedSimpArgs false
/- A part of the proof that TopSaved returns true. -/
namespace Go.Proofs.YtfdillpofciicaaGreatDoor
open Go Go.RowKit Go.Shelf Go.Sort
attribute [local go_sem] AllFrom.cons_eq AllFrom.nil_eq putF_nil putF_cons wantedL_none wantedL_some OpGoalT OpGoalV OpGoalQ OpGoalA OpGoalK YieldsR preF_nil preF_cons
def Grown (W V : World) : Prop:=∃ q os,V = grow (W.drewN q) os
theorem Grown.refl (W : World) : Grown W W:=⟨0,#[],by rw [grow_empty];rfl⟩
theorem Grown.alloc {W V : World} (h : Grown W V) (o : Obj) : Grown W (V.alloc o):=by
 obtain ⟨q,os,rfl⟩:=h
 exact ⟨q,os ++ #[o],by rw [alloc_eq_grow,grow_grow]⟩
theorem Grown.drew {W V : World} (h : Grown W V) : Grown W V.drew:=by
 obtain ⟨q,os,rfl⟩:=h
 exact ⟨q + 1,os,rfl⟩
theorem Grown.trans {W V U : World} (h : Grown W V) (k : Grown V U) : Grown W U:=by
 obtain ⟨q,os,rfl⟩:=h
 obtain ⟨q',os',rfl⟩:=k
 exact ⟨q + q',os ++ os',by simp [grow,World.drewN,Array.append_assoc,Nat.add_assoc]⟩
def cmpH (a b : Hd) : Int:=if Lib.compareInt a.1 b.1 ≠ 0 then Lib.compareInt a.1 b.1 else Lib.compareInt a.2 b.2
theorem cmpH_lt (a b : Hd) : cmpH a b < 0 ↔ ltH a b = true:=by
 rw [ltH_iff]
 unfold cmpH Lib.compareInt
 repeat' split
 all_goals omega
set_option maxRecDepth 20000 in
theorem compareI_any (x y : Int) (w : World) : Calls Tryz.prog 88 #[.int .i64 x,.int .i64 y] w fun e w' => e = .returned (.int .i64 (Lib.compareInt x y)) ∧ w = w':=by
 unfold Lib.compareInt
 by_cases h1 : x < y
 ·rw [if_pos h1]
  go_enter Tryz.func88,Tryz.ntmps88
  go_wp2
  go_ret
  exact ⟨rfl,rfl⟩
 ·rw [if_neg h1]
  by_cases h2 : y < x
  ·rw [if_pos h2]
   go_enter Tryz.func88,Tryz.ntmps88
   go_wp2
   go_ret
   exact ⟨rfl,rfl⟩
  ·rw [if_neg h2]
   go_enter Tryz.func88,Tryz.ntmps88
   go_wp2
   go_ret
   exact ⟨rfl,rfl⟩
def orI (x y : Int) : Int:=if x ≠ 0 then x else y
set_option maxRecDepth 20000 in
theorem or_any (b : Nat) (x y : Int) (w : World) (h0 : w.cell? ⟨b,0,none⟩ = some (.int .i64 x)) (h1 : w.cell? ⟨b,1,none⟩ = some (.int .i64 y)) (hb : b < w.heap.size) :
  Calls Tryz.prog 107 #[.slice (some ⟨b,0,none⟩) 2 2] w fun e w' => e = .returned (.int .i64 (orI x y)) ∧ w = w':=by
 have h1' : x ≠ 0 → orI x y = x:=fun h => by unfold orI;rw [if_pos h]
 have h2' : x = 0 → orI x y = y:=fun h => by unfold orI;rw [if_neg (by simpa using h)]
 obtain ⟨H1,H2⟩:=hid2 h1' h2'
 clear h1' h2'
 generalize orI x y = r at *
 go_enter Tryz.func107,Tryz.ntmps107
 go_wp2_with fail
 go_loopw [8] (fun i wr => ∃ k : Nat,i = .int .i64 k ∧ k ≤ 2 ∧ (k ≠ 0 → x = 0) ∧ (k = 2 → y = 0) ∧ wr = w) (fun i _ => 2 - (Go.RowKit.intOf i).toNat)
 case atStart => exact ⟨0,rfl,by omega,by simp,by simp,rfl⟩
 case round =>
  obtain ⟨k,rfl,hk,hx,hy,rfl⟩:=hrel
  have h3 : k = 0 ∨ k = 1 ∨ k = 2:=by omega
  rcases h3 with rfl | rfl | rfl
  ·clear hx hy hk
   by_cases hx0 : x = 0
   ·go_wp2
    go_roundw
    case rel => exact ⟨1,rfl,by omega,fun _ => hx0,fun h => by omega,by first | rfl | trivial⟩
    case measure => simp [Go.RowKit.intOf]
   ·obtain rfl : r = x:=H1.out hx0
    clear H1 H2
    go_wp2
    go_ret
    exact ⟨rfl,by first | rfl | trivial⟩
  ·have hx0:=hx (by omega)
   clear hx hy hk
   by_cases hy0 : y = 0
   ·go_wp2
    go_roundw
    case rel => exact ⟨2,rfl,by omega,fun _ => hx0,fun _ => hy0,by first | rfl | trivial⟩
    case measure => simp [Go.RowKit.intOf]
   ·obtain rfl : r = y:=H2.out hx0
    clear H1 H2
    go_wp2
    go_ret
    exact ⟨rfl,by first | rfl | trivial⟩
  ·have hx0:=hx (by omega)
   have hy0:=hy rfl
   obtain rfl : r = 0:=(H2.out hx0).trans hy0
   clear hx hy hk H1 H2
   go_wp2
   go_ret
   exact ⟨rfl,by first | rfl | trivial⟩
def CmpPost (r : Int) (w : World) (e : Ending) (w' : World) : Prop:=e = .returned (.int .i64 r) ∧ Grown w w'
set_option maxRecDepth 20000 in
set_option maxHeartbeats 2000000 in
theorem cmpHd_any (s g t u : Int) (w : World) : Calls Tryz.prog 61 #[.agg #[.int .i64 s,.int .i64 g],.agg #[.int .i64 t,.int .i64 u]] w (CmpPost (cmpH (s,g) (t,u)) w):=by
 obtain ⟨w0,hw0,hb0,hz0,hs0⟩:=box1 w (.cells #[.int .i64 s,.int .i64 g] 47)
 obtain ⟨w1,hw1,hb1,hz1,hs1⟩:=box1 w0 (.cells #[.int .i64 t,.int .i64 u] 47)
 have hz01:=(Mod.ofBelow hb1).keep hz0 (by simp)
 have hG : Grown w w1:=by rw [← hw1,← hw0];exact ((Grown.refl w).alloc _).alloc _
 have hc1:=compareI_any s t
 have hc2:=compareI_any g u
 have hfin : cmpH (s,g) (t,u) = orI (Lib.compareInt s t) (Lib.compareInt g u):=rfl
 rw [hfin]
 generalize Lib.compareInt s t = c1 at *
 generalize Lib.compareInt g u = c2 at *
 obtain ⟨q0,q1,ql⟩:=cells2 hz01
 obtain ⟨u0,u1,ul⟩:=cells2 hz1
 obtain ⟨HC1,HC2,HG⟩:=hid3 hc1 hc2 hG
 clear hc1 hc2 hG
 clear hz0 hz01 hz1 hb0 hb1 hs0 hs1 hfin
 go_enter Tryz.func61,Tryz.ntmps61
 go_wp2_with fail
 clear hw0 hw1
 refine wp_planR 10 [] [some 5,some 6,some 7,some 8,some 9,some 10,some 11,some 12,some 13,some 14,some 15,some 16,some 4] [[],[0],[],[2],[0,1,2,3],[],[5],[],[7],[0,1,2,3,4,5,6,7,8],[0,1,2,3,4,5,6,7,8,9],[0,1,2,3,4,5,6,7,8,9,10],[0,1,2,3,4,5,6,7,8,9,10,11]] [0,1,2,3,4,5,6,7,8,9] mixed rfl (by kernel_rfl) (by decide) (by decide) rfl ?_
 iterate 10 apply Exists.intro
 refine ⟨rfl,?_,?_⟩
 ·simp only [tS,List.take_zero,AllFrom.cons_eq,AllFrom.nil_eq,OpGoalQ]
  refine ⟨?_,?_,?_,?_,?_,?_,?_,?_,?_,?_,trivial⟩
  all_goals (intro σ hp;(try simp only [gZ,gS,mC,mN,preF_cons,preF_nil,isV,and_true] at hp);(first | (have hq : True:=hp;clear hq hp) | skip))
  iterate 4 · (go_simp;exact ⟨rfl,rfl⟩)
  ·(go_simp;refine (HC1.out _).mono ?_;rintro e w' ⟨rfl,rfl⟩;exact ⟨_,rfl,rfl,rfl⟩)
  iterate 4 · (go_simp;exact ⟨rfl,rfl⟩)
  ·(go_simp;refine (HC2.out _).mono ?_;rintro e w' ⟨rfl,rfl⟩;exact ⟨_,rfl,rfl,rfl⟩)
 intro σ hp
 simp only [gZ,gS,mC,mN,preF_cons,preF_nil,isV,and_true] at hp
 simp only [dS,List.drop_zero]
 go_simp
 clear hp
 obtain ⟨w2,hw2,-,hz2,-⟩:=box1 w1.drew (.cells #[.int .i64 c1,.int .i64 c2] 3)
 have hG2 : Grown w w2:=by rw [← hw2];exact (HG.out.drew).alloc _
 have e0:=blk_cell hz2 0
 have e1:=blk_cell hz2 1
 simp only [eA,eZ,eS] at e0 e1
 have HOr:=Lib.hid (or_any _ c1 c2 w2 e0 e1 (blk_lt hz2))
 have HG2:=Lib.hid hG2
 clear hG2
 clear e0 e1 hz2
 go_wp2_with fail
 clear hw2
 refine HOr.out.mono ?_
 rintro e w' ⟨rfl,rfl⟩
 go_wp2
 refine ⟨rfl,?_⟩
 go_wp2
 go_ret
 exact ⟨rfl,HG2.out⟩
 all_goals exact undef
theorem ltHd_eq (x y : Hd) : ltOf cmpH x y = ltH x y:=by
 unfold ltOf
 cases h : ltH x y with
 | true => exact decide_eq_true ((cmpH_lt x y).2 h)
 | false => exact decide_eq_false (fun e => by rw [(cmpH_lt x y).1 e] at h;cases h)
theorem swoHd {α : Type} (f : α → Hd) : SWO (ltOf fun x y : α => cmpH (f x) (f y)) where
 irrefl x:=by show ltOf cmpH (f x) (f x) = _;rw [ltHd_eq];exact ltH_irrefl _
 trans x y z h1 h2:=by
  have h1 : ltOf cmpH (f x) (f y) = true:=h1
  have h2 : ltOf cmpH (f y) (f z) = true:=h2
  show ltOf cmpH (f x) (f z) = true
  rw [ltHd_eq] at *
  exact ltH_trans h1 h2
 ntrans x y z h1 h2:=by
  have h1 : ltOf cmpH (f x) (f y) = false:=h1
  have h2 : ltOf cmpH (f y) (f z) = false:=h2
  show ltOf cmpH (f x) (f z) = false
  rw [ltHd_eq] at *
  cases h3 : ltH (f x) (f z) with
  | false => rfl
  | true =>
   cases h4 : ltH (f y) (f x) with
   | true => rw [ltH_trans h4 h3] at h2;cases h2
   | false =>
    have e:=ltH_tri h1 h4
    rw [e] at h3;rw [h3] at h2;cases h2
def sortBondL_ren : Go.Shelf.Ren:=⟨fun | 6 => 89 | 15 => 137 | 14 => 139 | 28 => 183 | 29 => 184 | 20 => 185 | 21 => 186 | 22 => 187 | 23 => 188 | 24 => 189 | 25 => 190 | 26 => 191 | 27 => 192 | 46 => 220 | 47 => 216 | 48 => 217 | 49 => 221 | 50 => 222 | 57 => 244 | n => n,fun | 22 => 24 | 24 => 60 | 25 => 61 | 3 => 3 | 39 => 225 | 0 => 0 | 53 => 260 | 55 => 239 | 4 => 4 | 46 => 254 | 45 => 253 | 50 => 92 | 5 => 5 | 9 => 9 | 66 => 292 | 70 => 296 | 76 => 319 | 77 => 320 | n => n,fun | n => n⟩
theorem sortBondL : Go.Proofs.SlLaysF0.n6 Tryz.prog sortBondL_ren:={
 mixed:=by kernel_rfl,
 f6:=⟨Tryz.f89.name,by decide,Tryz.func89.trans (congrArg some (by kernel_rfl))⟩,
 f14:=⟨Tryz.f139.name,by decide,Tryz.func139.trans (congrArg some (by kernel_rfl))⟩,
 f15:=Tryz.func137.trans (congrArg some (by kernel_rfl)),
 f20:=⟨Tryz.f185.name,by decide,Tryz.func185.trans (congrArg some (by kernel_rfl))⟩,
 f21:=⟨Tryz.f186.name,by decide,Tryz.func186.trans (congrArg some (by kernel_rfl))⟩,
 f22:=⟨Tryz.f187.name,by decide,Tryz.func187.trans (congrArg some (by kernel_rfl))⟩,
 f23:=⟨Tryz.f188.name,by decide,Tryz.func188.trans (congrArg some (by kernel_rfl))⟩,
 f24:=⟨Tryz.f189.name,by decide,Tryz.func189.trans (congrArg some (by kernel_rfl))⟩,
 f25:=⟨Tryz.f190.name,by decide,Tryz.func190.trans (congrArg some (by kernel_rfl))⟩,
 f26:=⟨Tryz.f191.name,by decide,Tryz.func191.trans (congrArg some (by kernel_rfl))⟩,
 f27:=⟨Tryz.f192.name,by decide,Tryz.func192.trans (congrArg some (by kernel_rfl))⟩,
 f28:=Tryz.func183.trans (congrArg some (by kernel_rfl)),
 f29:=Tryz.func184.trans (congrArg some (by kernel_rfl)),
 f46:=⟨Tryz.f220.name,by decide,Tryz.func220.trans (congrArg some (by kernel_rfl))⟩,
 f47:=Tryz.func216.trans (congrArg some (by kernel_rfl)),
 f48:=Tryz.func217.trans (congrArg some (by kernel_rfl)),
 f49:=⟨Tryz.f221.name,by decide,Tryz.func221.trans (congrArg some (by kernel_rfl))⟩,
 f50:=⟨Tryz.f222.name,by decide,Tryz.func222.trans (congrArg some (by kernel_rfl))⟩,
 f57:=⟨Tryz.f244.name,by decide,Tryz.func244.trans (congrArg some (by kernel_rfl))⟩,
 t0:=Tryz.underlying0,
 a0:=Tryz.isAgg0,
 z0:=Tryz.sizeOf0,
 v0:=Tryz.zeroValue0,
 t3:=Tryz.underlying3,
 a3:=Tryz.isAgg3,
 z3:=Tryz.sizeOf3,
 v3:=Tryz.zeroValue3,
 t4:=Tryz.underlying4,
 a4:=Tryz.isAgg4,
 z4:=Tryz.sizeOf4,
 v4:=Tryz.zeroValue4,
 t5:=Tryz.underlying5,
 a5:=Tryz.isAgg5,
 z5:=Tryz.sizeOf5,
 v5:=Tryz.zeroValue5,
 t9:=Tryz.underlying9,
 a9:=Tryz.isAgg9,
 z9:=Tryz.sizeOf9,
 v9:=Tryz.zeroValue9,
 t22:=Tryz.underlying24,
 a22:=Tryz.isAgg24,
 z22:=Tryz.sizeOf24,
 v22:=Tryz.zeroValue24,
 t25:=Tryz.underlying61,
 a25:=Tryz.isAgg61,
 z25:=Tryz.sizeOf61,
 v25:=Tryz.zeroValue61,
 t39:=Tryz.underlying225,
 a39:=Tryz.isAgg225,
 z39:=Tryz.sizeOf225,
 v39:=Tryz.zeroValue225,
 t45:=Tryz.underlying253,
 a45:=Tryz.isAgg253,
 z45:=Tryz.sizeOf253,
 v45:=Tryz.zeroValue253,
 t46:=Tryz.underlying254,
 a46:=Tryz.isAgg254,
 z46:=Tryz.sizeOf254,
 v46:=Tryz.zeroValue254,
 t50:=Tryz.underlying92,
 a50:=Tryz.isAgg92,
 z50:=Tryz.sizeOf92,
 v50:=Tryz.zeroValue92,
 t53:=Tryz.underlying260,
 a53:=Tryz.isAgg260,
 z53:=Tryz.sizeOf260,
 v53:=Tryz.zeroValue260,
 t55:=Tryz.underlying239,
 a55:=Tryz.isAgg239,
 z55:=Tryz.sizeOf239,
 v55:=Tryz.zeroValue239,
 t66:=Tryz.underlying292,
 a66:=Tryz.isAgg292,
 z66:=Tryz.sizeOf292,
 v66:=Tryz.zeroValue292,
 t70:=Tryz.underlying296,
 a70:=Tryz.isAgg296,
 z70:=Tryz.sizeOf296,
 v70:=Tryz.zeroValue296,
 t76:=Tryz.underlying319,
 a76:=Tryz.isAgg319,
 z76:=Tryz.sizeOf319,
 v76:=Tryz.zeroValue319,
 t77:=Tryz.underlying320,
 a77:=Tryz.isAgg320,
 z77:=Tryz.sizeOf320,
 v77:=Tryz.zeroValue320 }
def sortHandleL_ren : Go.Shelf.Ren:=⟨fun | 6 => 197 | 15 => 137 | 14 => 223 | 28 => 183 | 29 => 184 | 20 => 245 | 21 => 246 | 22 => 247 | 23 => 248 | 24 => 249 | 25 => 250 | 26 => 251 | 27 => 252 | 46 => 265 | 47 => 216 | 48 => 217 | 49 => 266 | 50 => 267 | 57 => 271 | n => n,fun | 22 => 156 | 24 => 47 | 25 => 133 | 3 => 3 | 39 => 225 | 0 => 0 | 53 => 260 | 55 => 239 | 4 => 4 | 46 => 254 | 45 => 253 | 50 => 92 | 5 => 5 | 9 => 9 | 66 => 292 | 70 => 296 | 76 => 319 | 77 => 320 | n => n,fun | n => n⟩
theorem sortHandleL : Go.Proofs.SlLaysF0.n6 Tryz.prog sortHandleL_ren:={
 mixed:=by kernel_rfl,
 f6:=⟨Tryz.f197.name,by decide,Tryz.func197.trans (congrArg some (by kernel_rfl))⟩,
 f14:=⟨Tryz.f223.name,by decide,Tryz.func223.trans (congrArg some (by kernel_rfl))⟩,
 f15:=Tryz.func137.trans (congrArg some (by kernel_rfl)),
 f20:=⟨Tryz.f245.name,by decide,Tryz.func245.trans (congrArg some (by kernel_rfl))⟩,
 f21:=⟨Tryz.f246.name,by decide,Tryz.func246.trans (congrArg some (by kernel_rfl))⟩,
 f22:=⟨Tryz.f247.name,by decide,Tryz.func247.trans (congrArg some (by kernel_rfl))⟩,
 f23:=⟨Tryz.f248.name,by decide,Tryz.func248.trans (congrArg some (by kernel_rfl))⟩,
 f24:=⟨Tryz.f249.name,by decide,Tryz.func249.trans (congrArg some (by kernel_rfl))⟩,
 f25:=⟨Tryz.f250.name,by decide,Tryz.func250.trans (congrArg some (by kernel_rfl))⟩,
 f26:=⟨Tryz.f251.name,by decide,Tryz.func251.trans (congrArg some (by kernel_rfl))⟩,
 f27:=⟨Tryz.f252.name,by decide,Tryz.func252.trans (congrArg some (by kernel_rfl))⟩,
 f28:=Tryz.func183.trans (congrArg some (by kernel_rfl)),
 f29:=Tryz.func184.trans (congrArg some (by kernel_rfl)),
 f46:=⟨Tryz.f265.name,by decide,Tryz.func265.trans (congrArg some (by kernel_rfl))⟩,
 f47:=Tryz.func216.trans (congrArg some (by kernel_rfl)),
 f48:=Tryz.func217.trans (congrArg some (by kernel_rfl)),
 f49:=⟨Tryz.f266.name,by decide,Tryz.func266.trans (congrArg some (by kernel_rfl))⟩,
 f50:=⟨Tryz.f267.name,by decide,Tryz.func267.trans (congrArg some (by kernel_rfl))⟩,
 f57:=⟨Tryz.f271.name,by decide,Tryz.func271.trans (congrArg some (by kernel_rfl))⟩,
 t0:=Tryz.underlying0,
 a0:=Tryz.isAgg0,
 z0:=Tryz.sizeOf0,
 v0:=Tryz.zeroValue0,
 t3:=Tryz.underlying3,
 a3:=Tryz.isAgg3,
 z3:=Tryz.sizeOf3,
 v3:=Tryz.zeroValue3,
 t4:=Tryz.underlying4,
 a4:=Tryz.isAgg4,
 z4:=Tryz.sizeOf4,
 v4:=Tryz.zeroValue4,
 t5:=Tryz.underlying5,
 a5:=Tryz.isAgg5,
 z5:=Tryz.sizeOf5,
 v5:=Tryz.zeroValue5,
 t9:=Tryz.underlying9,
 a9:=Tryz.isAgg9,
 z9:=Tryz.sizeOf9,
 v9:=Tryz.zeroValue9,
 t22:=Tryz.underlying156,
 a22:=Tryz.isAgg156,
 z22:=Tryz.sizeOf156,
 v22:=Tryz.zeroValue156,
 t25:=Tryz.underlying133,
 a25:=Tryz.isAgg133,
 z25:=Tryz.sizeOf133,
 v25:=Tryz.zeroValue133,
 t39:=Tryz.underlying225,
 a39:=Tryz.isAgg225,
 z39:=Tryz.sizeOf225,
 v39:=Tryz.zeroValue225,
 t45:=Tryz.underlying253,
 a45:=Tryz.isAgg253,
 z45:=Tryz.sizeOf253,
 v45:=Tryz.zeroValue253,
 t46:=Tryz.underlying254,
 a46:=Tryz.isAgg254,
 z46:=Tryz.sizeOf254,
 v46:=Tryz.zeroValue254,
 t50:=Tryz.underlying92,
 a50:=Tryz.isAgg92,
 z50:=Tryz.sizeOf92,
 v50:=Tryz.zeroValue92,
 t53:=Tryz.underlying260,
 a53:=Tryz.isAgg260,
 z53:=Tryz.sizeOf260,
 v53:=Tryz.zeroValue260,
 t55:=Tryz.underlying239,
 a55:=Tryz.isAgg239,
 z55:=Tryz.sizeOf239,
 v55:=Tryz.zeroValue239,
 t66:=Tryz.underlying292,
 a66:=Tryz.isAgg292,
 z66:=Tryz.sizeOf292,
 v66:=Tryz.zeroValue292,
 t70:=Tryz.underlying296,
 a70:=Tryz.isAgg296,
 z70:=Tryz.sizeOf296,
 v70:=Tryz.zeroValue296,
 t76:=Tryz.underlying319,
 a76:=Tryz.isAgg319,
 z76:=Tryz.sizeOf319,
 v76:=Tryz.zeroValue319,
 t77:=Tryz.underlying320,
 a77:=Tryz.isAgg320,
 z77:=Tryz.sizeOf320,
 v77:=Tryz.zeroValue320 }
theorem cmpHd_sort (x y : Hd) (W : World) : Calls Tryz.prog 61 #[.agg (handleC x).toArray,.agg (handleC y).toArray] W fun e w' => e = .returned (.int .i64 (cmpH x y)) ∧ ∃ q os,w' = grow (W.drewN q) os :=
 cmpHd_any x.1 x.2 y.1 y.2 W
set_option maxRecDepth 20000 in
set_option maxHeartbeats 2000000 in
theorem cmpBd_sort (x y : Bd) (W : World) : Calls Tryz.prog 90 #[.agg (bdC x).toArray,.agg (bdC y).toArray] W (CmpPost (cmpH x.1 y.1) W):=by
 obtain ⟨⟨s,g⟩,⟨s1,g1⟩⟩:=x
 obtain ⟨⟨t,u⟩,⟨t1,u1⟩⟩:=y
 show Calls Tryz.prog 90 #[.agg #[.int .i64 s,.int .i64 g,.int .i64 s1,.int .i64 g1],.agg #[.int .i64 t,.int .i64 u,.int .i64 t1,.int .i64 u1]] W (CmpPost (cmpH (s,g) (t,u)) W)
 have HC:=Lib.hid (cmpHd_any s g t u)
 go_enter Tryz.func90,Tryz.ntmps90
 go_wp2_with fail
 refine (HC.out _).mono ?_
 rintro e w' ⟨rfl,hG⟩
 have HG:=Lib.hid ((((Grown.refl W).alloc _).alloc _).trans hG)
 clear hG
 go_wp2
 go_ret
 exact ⟨rfl,HG.out⟩
theorem sortBonds_any {w : World} {B : Nat} {v : Value} {l : List Bd} (hown : w.ownsRow B 60 4 v l.length (l.flatMap bdC)) (hl : l.length ≤ 1200000000000) :
  Calls Tryz.prog 89 #[v,.func (.func 90) #[] #[]] w (SortedRow bdC 4 B 60 (ltOf fun x y : Bd => cmpH x.1 y.1) l v w) :=
 sort_own sortBondL Tryz.isAgg60 Tryz.sizeOf60 bdC_len bdC_one _ (swoHd (fun x : Bd => x.1)) 90 (enters_of Tryz.func90 (by kernel_rfl) rfl) cmpBd_sort hown (by omega)
theorem sortHandles_any {w : World} {B : Nat} {v : Value} {l : List Hd} (hown : w.ownsRow B 47 2 v l.length (l.flatMap handleC)) (hl : l.length ≤ 1200000000000) :
  Calls Tryz.prog 197 #[v,.func (.func 61) #[] #[]] w (SortedRow handleC 2 B 47 (ltOf fun x y : Hd => cmpH x y) l v w) :=
 sort_own sortHandleL Tryz.isAgg47 Tryz.sizeOf47 (fun _ => rfl) handleC_one _ (swoHd (fun x : Hd => x)) 61 (enters_of Tryz.func61 (by kernel_rfl) rfl) cmpHd_sort hown (by omega)
end Go.Proofs.YtfdillpofciicaaGreatDoor
namespace Go.Proofs.YtfdillpofciicaaGreatDoor
open Go Go.RowKit Go.Maps
attribute [local go_sem] AllFrom.cons_eq AllFrom.nil_eq putF_nil putF_cons wantedL_none wantedL_some OpGoalT OpGoalV OpGoalQ OpGoalA OpGoalK YieldsR preF_nil preF_cons
def ofH (h : Hd) (b : Bd) : Bool:=eqB b.1 h || eqB b.2 h
def BoolPost (r : Bool) (w : World) (e : Ending) (w' : World) : Prop:=e = .returned (.bool r) ∧ Below w.heap.size w w'
set_option maxRecDepth 20000 in
set_option maxHeartbeats 2000000 in
theorem goneF_any (c0 c1 p0 p1 s g : Int) (hb : Nat) (w : World) (hh : w.heap[hb]? = some (.cells #[.int .i64 s,.int .i64 g] 47 (0,0))) :
  Calls Tryz.prog 152 #[.agg #[.int .i64 c0,.int .i64 c1],.agg #[.int .i64 p0,.int .i64 p1],.pointer (some ⟨hb,0,none⟩)] w (BoolPost (ofH (s,g) ((c0,c1),(p0,p1))) w):=by
 obtain ⟨w0,hw0,hb0,hz0,hs0⟩:=box1 w (.cells #[.int .i64 c0,.int .i64 c1] 47)
 obtain ⟨w1,hw1,hb1,hz1,hs1⟩:=box1 w0 (.cells #[.int .i64 p0,.int .i64 p1] 47)
 have hz01:=(Mod.ofBelow hb1).keep hz0 (by simp)
 have hB:=hb0.trans (hb1.mono hb0.size)
 have hh1:=(Mod.ofBelow hB).keep hh (by simp)
 unfold ofH
 have hq1:=fun w => eqlHandle w c0 c1 s g
 have hq2:=fun w => eqlHandle w p0 p1 s g
 generalize eqB (c0,c1) (s,g) = r1 at *
 generalize eqB (p0,p1) (s,g) = r2 at *
 obtain ⟨q0,q1,ql⟩:=cells2 hz01
 obtain ⟨u0,u1,ul⟩:=cells2 hz1
 obtain ⟨v0,v1,vl⟩:=cells2 hh1
 have HB:=Lib.hid hB
 clear hB
 clear hz0 hz01 hz1 hb0 hb1 hs0 hs1 hh hh1
 cases r1 with
 | true =>
  go_enter Tryz.func152,Tryz.ntmps152
  go_wp2
  go_ret
  exact ⟨rfl,HB.out⟩
 | false =>
  go_enter Tryz.func152,Tryz.ntmps152
  go_wp2
  go_ret
  exact ⟨rfl,HB.out⟩
theorem mid_perm {α : Type} (D t1 t2 : List α) (x : α) : (D ++ (t1 ++ x :: t2)).Perm (D ++ [x] ++ (t1 ++ t2)):=by
 rw [List.append_assoc]
 exact List.Perm.append_left D List.perm_middle
theorem del_step {l' Dk t1 t2 : List Bd} {x : Bd} (ha : l'.Pairwise (fun a b => a.1 ≠ b.1)) (hp : l'.Perm (Dk ++ (t1 ++ x :: t2))) :
  ∃ l1 l2,l' = l1 ++ x :: l2 ∧ (l1 ++ l2).Perm (Dk ++ (t1 ++ t2)) ∧ ∀ y ∈ t1 ++ t2,y.1 ≠ x.1:=by
 have hx : x ∈ l':=hp.mem_iff.2 (by simp)
 obtain ⟨l1,l2,rfl⟩:=List.append_of_mem hx
 have h1 : (x :: (l1 ++ l2)).Perm (x :: (Dk ++ (t1 ++ t2))):=(List.perm_middle.symm.trans hp).trans ((mid_perm Dk t1 t2 x).trans (by rw [List.append_assoc];exact List.perm_middle))
 refine ⟨l1,l2,rfl,h1.cons_inv,fun y hy => ?_⟩
 have h2:=((List.Perm.pairwise_iff (fun h => Ne.symm h) (List.perm_middle.trans h1)).1 ha)
 exact (List.pairwise_cons.1 h2).1 y (List.mem_append_right _ hy) |>.symm
def DelPost (m : Nat) (l : List Bd) (h : Hd) (w : World) (e : Ending) (w' : World) : Prop :=
 e = .returned (.tuple #[]) ∧ (∃ l' : List Bd,MapAt Tryz.prog 47 w' m (l'.map bdPr) ∧ l'.Perm (l.filter (fun b => !ofH h b))) ∧ Mod [m] w w'
set_option maxRecDepth 20000 in
set_option maxHeartbeats 4000000 in
theorem delF_any (m hb : Nat) (l : List Bd) (s g : Int) (w : World) (hm : MapAt Tryz.prog 47 w m (l.map bdPr)) (hr : ∀ b ∈ l,HdR b.1) (hh : w.heap[hb]? = some (.cells #[.int .i64 s,.int .i64 g] 47 (0,0))) :
  Calls Tryz.prog 151 #[.map (some m),.func (.func 152) #[] #[.pointer (some ⟨hb,0,none⟩)]] w (DelPost m l (s,g) w):=by
 obtain ⟨o,hrun,hR⟩:=hm.range Tryz.underlying167
 obtain ⟨w1,hw1,hb1,-,hs1⟩:=box1 w o
 rw [hw1] at hR
 have hh1:=(Mod.ofBelow hb1).keep hh (by simp)
 have hlt:=hm.lt
 have hbm : hb ≠ m:=by
  rintro rfl
  obtain ⟨es,c,h1,-⟩:=hm
  rw [h1] at hh;cases hh
 have hbl:=blk_lt hh
 have hm01 : Mod [m] w w1:=(Mod.ofBelow hb1).mono (by simp)
 go_enter Tryz.func151,Tryz.ntmps151
 obtain ⟨HR,Hb1,Hs1,Hh1,HR1,Hbm,Hbl,Hlt,Hm01⟩:=hid9 hR hb1 hs1 hh1 hr hbm hbl hlt hm01
 clear hR hb1 hs1 hh1 hr hbm hbl hlt hm01
 clear hm hh
 go_wp2_with fail
 clear hrun hw1
 generalize hrr : w.heap.size = r at *
 go_loopw [9] (fun _ wr => ∃ (l' D ts : List Bd),RangeAt Tryz.prog 47 wr m r (l'.map bdPr) (ts.map bdPr) ∧ l'.Perm (D.filter (fun b => !ofH (s,g) b) ++ ts) ∧ (D ++ ts).Perm l ∧ Mod [m,r] w1 wr) (fun _ wr => wr.rangeLeft m r)
 case atStart => exact ⟨l,[],l,HR.out,.refl _,.refl _,Mod.refl _ _⟩
 case round =>
  obtain ⟨l',D,ts,hR,hp1,hp2,hmod⟩:=hrel
  by_cases hts : ts = []
  ·subst hts
   have hov:=fun ty => RangeAt.over (P:=Tryz.prog) (by simpa using hR) ty
   simp only [List.append_nil] at hp1 hp2
   have hfin : DelPost m l (s,g) w (.returned (.tuple #[])) wr:=by
    refine ⟨rfl,⟨l',hR.map,hp1.trans (hp2.filter _)⟩,?_⟩
    exact Hm01.out.trans hmod (fun x hx => by
     simp at hx
     rcases hx with rfl | rfl
     ·simp
     ·exact .inr (by omega))
   have Hfin:=Lib.hid hfin
   clear hfin
   clear hR hp1 hp2 hmod
   go_wp2
   refine bodyPost_end (v:=.tuple #[]) ?_ rfl Hfin.out
   unfold results;try go_simp
  ·obtain ⟨t1,x,t2,w2,rfl,hn,hen,hx,hR2,hm2,hs2⟩:=hR.nextE hts
   have hmeas:=hR.left_eq
   obtain ⟨⟨c0,c1⟩,p0,p1⟩:=x
   have hm12 : Mod [m,r] w1 w2:=hmod.step (hm2.mono (by simp))
   have hsz2:=hm12.size
   have hh2:=hm12.keep Hh1.out (by have:=Hbm.out;have:=Hbl.out;simp;omega)
   have hmm : ((c0,c1),(p0,p1)) ∈ l:=hp2.mem_iff.1 (by simp)
   have hc:=HR1.out _ hmm
   simp only [bdPr,hdV,handleC] at hn hen
   obtain ⟨HR,Hp1,Hp2,Hmod,Hx,HR2,Hm2,Hs2,Hmeas,Hm12,Hsz2,Hh2,Hmm,Hc⟩:=hid14 hR hp1 hp2 hmod hx hR2 hm2 hs2 hmeas hm12 hsz2 hh2 hmm hc
   clear hR hp1 hp2 hmod hx hR2 hm2 hs2 hmeas hm12 hsz2 hh2 hmm hc
   go_wp2_with fail
   have H2:=Lib.hid (goneF_any c0 c1 p0 p1 s g hb)
   obtain ⟨w3,hw3,hb3,hz3,hs3⟩:=box1 w2 (.cells #[.int .i64 c0,.int .i64 c1] 47)
   obtain ⟨w4,hw4,hb4,-,-⟩:=box1 w3 (.cells #[.int .i64 p0,.int .i64 p1] 47)
   rw [hw3,hw4]
   have hb24 : Below w2.heap.size w2 w4:=hb3.trans (hb4.mono hb3.size)
   have hz4:=(Mod.ofBelow hb4).keep hz3 (by simp)
   have hh4:=(Mod.ofBelow hb24).keep Hh2.out (by simp)
   refine (H2.out w4 hh4).mono ?_
   rintro e w5 ⟨rfl,hb5⟩
   have hb25 : Below w2.heap.size w2 w5:=hb24.trans (hb5.mono hb24.size)
   have hz5:=(Mod.ofBelow hb5).keep hz4 (by simp)
   have hR5:=HR2.out.mod (Mod.ofBelow hb25) (by simp) (by simp)
   have hm15:=Hm12.out.andBelow hb25
   clear hn hen hw3 hw4 hb3 hb4 hb24 hz3 hz4 hh4 hs3 hb5
   cases hof : ofH (s,g) ((c0,c1),(p0,p1)) with
   | false =>
    obtain ⟨HR5,Hm15,Hof⟩:=hid3 hR5 hm15 hof
    clear hR5 hm15 hof
    clear hz5
    go_wp2
    go_roundw
    case rel =>
     refine ⟨l',D ++ [((c0,c1),(p0,p1))],t1 ++ t2,HR5.out,?_,(mid_perm D t1 t2 _).symm.trans Hp2.out,Hm15.out⟩
     rw [List.filter_append,show [((c0,c1),(p0,p1))].filter (fun b => !ofH (s,g) b) = [((c0,c1),(p0,p1))] by simp [Hof.out]]
     exact Hp1.out.trans (mid_perm _ t1 t2 _)
    case measure => rw [HR5.out.left_eq,Hmeas.out];simp
   | true =>
    obtain ⟨l1,l2,hl',hpp,hne⟩:=del_step (mh_apart bdPr_keys hR5.map) Hp1.out
    obtain ⟨kl,hk⟩:=hd_key Hc.out
    rw [hl',List.map_append,List.map_cons] at hR5
    obtain ⟨w6,hrun,hR6,hm6,hs6⟩:=hR5.del (ty:=0) hd_keyed Tryz.underlying167 (key:=hdV (c0,c1)) hk (fun e => by
     obtain ⟨y,hy,he⟩:=List.mem_map.1 e
     have h1 : hdV y.1 = hdV (c0,c1):=congrArg Prod.fst he
     exact hne y hy (hdV_inj h1))
    rw [← List.map_append] at hR6
    have hm16:=hm15.step (hm6.mono (by simp))
    simp only [hdV,handleC] at hrun
    obtain ⟨q0,q1,ql⟩:=cells2 hz5
    obtain ⟨HR6,Hm16,Hof,Hpp⟩:=hid4 hR6 hm16 hof hpp
    clear hR6 hm16 hof hpp
    clear hz5 hR5 hm15 hm6 hs6 hl' hne hk
    go_wp2
    go_roundw
    case rel =>
     refine ⟨l1 ++ l2,D ++ [((c0,c1),(p0,p1))],t1 ++ t2,HR6.out,?_,(mid_perm D t1 t2 _).symm.trans Hp2.out,Hm16.out⟩
     rw [List.filter_append,show [((c0,c1),(p0,p1))].filter (fun b => !ofH (s,g) b) = [] by simp [Hof.out],List.append_nil]
     exact Hpp.out
    case measure => rw [HR6.out.left_eq,Hmeas.out];simp
theorem goneB_eq (B : List Bd) (h : Hd) : goneB B h = B.filter (fun b => !ofH h b):=rfl
section
variable {w : World} {f : Nat} {B : List Bd} {F : List Nat}
set_option maxRecDepth 20000 in
set_option maxHeartbeats 2000000 in
theorem gone_any (h : RepF w f B F) (s g : Int) : Calls Tryz.prog 100 #[.pointer (some ⟨f,0,none⟩),.agg #[.int .i64 s,.int .i64 g]] w (FRet (goneB B (s,g)) (.tuple #[]) f F w):=by
 obtain ⟨w0,hw0,hb0,hz0,hs0⟩:=box1 w (.cells #[.int .i64 s,.int .i64 g] 47)
 have h0:=h.below hb0
 obtain ⟨ho,hr,m,l,h1,h2,h3,hF,h5⟩:=h0
 have e0:=blk_cell h1 0
 simp only [eA,eZ] at e0
 have hfl:=blk_lt h1
 have H1:=Lib.hid (delF_any m w.heap.size l s g w0 h2 (fun b hb => (hr b (h3.mem_iff.1 hb)).1) hz0)
 obtain ⟨Hb0,Hz0,Ho,Hr,HB1,H2,H3,HF,H5⟩:=hid9 hb0 hz0 ho hr h1 h2 h3 hF h5
 clear hb0 hz0 ho hr h1 h2 h3 hF h5
 clear h hs0
 go_enter Tryz.func100,Tryz.ntmps100
 go_wp2_with fail
 clear hw0
 refine H1.out.mono ?_
 rintro e w1 ⟨rfl,⟨l',hm',hp'⟩,hmod⟩
 have hfin : FRet (goneB B (s,g)) (.tuple #[]) f F w (.returned (.tuple #[])) w1:=by
  refine ⟨rfl,⟨Ho.out.sub List.filter_sublist,fun b hb => Hr.out b (List.mem_filter.1 hb).1,m,l',hmod.keep HB1.out (by simpa using H5.out),hm',?_,HF.out,H5.out⟩,?_⟩
  ·rw [goneB_eq];exact hp'.trans (H3.out.filter _)
  ·exact ((Mod.ofBelow Hb0.out).mono (by simp) : Mod F w w0).step (hmod.mono (by rw [HF.out];simp))
 have Hfin:=Lib.hid hfin
 clear hfin
 clear hmod hm' hp'
 go_wp2
 refine bodyPost_end (v:=.tuple #[]) ?_ rfl Hfin.out
 unfold results;try go_simp
theorem app_bond {w : World} {ops : Array Oper} {rest : List Oper} {o : Oper} {a : Act} {Q : Exit → Act → World → Prop} (hgd : o.guard = none) (s x : Operand)
  (ho : o.op = .call { callee:=.builtin .append,args:=#[s,x],argTypes:=#[24,24] }) (base : Nat) (v : Value) (l : List Bd) (y : Bd) (ad : Addr) (c : Nat)
  (hs : a.eval s = v) (hown : w.ownsRow base 60 4 v l.length (l.flatMap bdC)) (hx : a.eval x = .slice (some ad) 1 c) (hc : ∀ j u,(bdC y)[j]? = some u → w.cell? (ad.add j) = some u)
  (hlen : l.length < 4000000000000) (hbase : base ≤ w.heap.size)
  (h : ∀ v' w',w'.ownsRow base 60 4 v' (l ++ [y]).length ((l ++ [y]).flatMap bdC) → w.grownBy w' v.ownBlock → wpList Tryz.prog ops Q rest (a.put o.dst v') w') : wpList Tryz.prog ops Q (o :: rest) a w:=by
 refine app_rec (enc:=bdC) (n:=4) (bytes:=32) hgd s x 24 60 ho Tryz.underlying24 inf_Bond rfl (by omega) (by omega) bdC_one bdC_len base v l y ad c hs hown hx hc (by omega) hbase ?_
 intro v' w' h1 h2 _
 exact h v' w' h1 h2
theorem own_ne_range {P : Program} {kt : TypeId} {w : World} {B E k n b r : Nat} {v : Value} {xs : List Value} {l todo : List (Value × Value)} (h : w.ownsRow B E k v n xs) (hR : RangeAt P kt w b r l todo) : r ∉ v.ownBlock.toList ∧ b ∉ v.ownBlock.toList:=by
 obtain ⟨es,clock,since,seen,c0,h1,h2,h3,-⟩:=hR
 obtain ⟨-,⟨rfl,-⟩ | ⟨g,cap,cur,rfl,-,hb,-⟩⟩:=h
 ·simp [Value.ownBlock]
 ·simp only [Value.ownBlock,Option.toList_some,List.mem_singleton]
  constructor
  ·rintro rfl;rw [hb] at h3;cases h3
  ·rintro rfl;rw [hb] at h1;cases h1
set_option maxRecDepth 20000 in
set_option maxHeartbeats 4000000 in
theorem bonds_any (h : RepF w f B F) (hB : B.length ≤ 1200000000000) : Calls Tryz.prog 46 #[.pointer (some ⟨f,0,none⟩)] w (MadeRecs 60 4 bdC B w):=by
 obtain ⟨ho,hr,m,l,h1,h2,h3,hF,h5⟩:=h
 obtain ⟨o,hrun,hR⟩:=h2.range Tryz.underlying167
 obtain ⟨w1,hw1,hb1,-,hs1⟩:=box1 w o
 rw [hw1] at hR
 have e0:=blk_cell h1 0
 simp only [eA,eZ] at e0
 have hfl:=blk_lt h1
 have hll : l.length ≤ 1200000000000:=by rw [h3.length_eq];exact hB
 obtain ⟨HR,Hb1,Hs1,Ho,H3,Hll⟩:=hid6 hR hb1 hs1 ho h3 hll
 clear hR hb1 hs1 ho h3 hll
 clear h1 h2 hr hF h5 hB
 go_enter Tryz.func46,Tryz.ntmps46
 go_wp2_with fail
 clear hrun hw1 e0 hfl
 go_loopw [3,12] (fun v _ wr => ∃ (D ts : List Bd),RangeAt Tryz.prog 47 wr m w.heap.size (l.map bdPr) (ts.map bdPr) ∧ (D ++ ts).Perm l ∧ wr.ownsRow w.heap.size 60 4 v D.length (D.flatMap bdC) ∧ Below w.heap.size w wr) (fun _ _ wr => wr.rangeLeft m w.heap.size)
 case atStart => exact ⟨[],l,HR.out,.refl _,⟨rfl,.inl ⟨rfl,rfl⟩⟩,Hb1.out⟩
 case round =>
  obtain ⟨D,ts,hR,hp,hown,hB⟩:=hrel
  obtain ⟨A,cap,rfl,-,-⟩:=row_slice hown
  have hlen : D.length + ts.length = l.length:=by rw [← List.length_append];exact hp.length_eq
  by_cases hts : ts = []
  ·subst hts
   have hov:=fun ty => RangeAt.over (P:=Tryz.prog) (by simpa using hR) ty
   simp only [List.append_nil] at hp
   have H1:=Lib.hid (sortBonds_any hown (by have:=Hll.out;rw [hp.length_eq];exact this))
   obtain ⟨Hp,HB,Hown⟩:=hid3 hp hB hown
   clear hp hB hown
   clear hR hlen
   go_wp2_with fail
   refine H1.out.mono ?_
   rintro e w2 ⟨rfl,l',hp',hs',hown',hmod⟩
   have hl' : l' = B:=sortB_eq Ho.out.so ((hp'.trans Hp.out).trans H3.out) (hs'.imp fun {x y} h => by
    have h : ltOf cmpH y.1 x.1 = false:=h
    rw [ltHd_eq] at h;exact h)
   have hB2 : Below w.heap.size w w2:=HB.out.trans (hmod.toBelow (fun x hx => own_ge Hown.out x (by simpa using hx)) HB.out.size)
   rw [hl'] at hown'
   have hDl : D.length = B.length:=(Hp.out.trans H3.out).length_eq
   obtain ⟨HB2,HO2⟩:=hid2 hB2 hown'
   clear hB2 hown'
   clear hp' hs' hmod hl'
   go_wp2
   refine bodyPost_ret (v:=.slice A D.length cap) (by unfold results;try go_simp) rfl ?_
   exact ⟨_,rfl,HO2.out,HB2.out⟩
  ·obtain ⟨t1,x,t2,w2,rfl,hn,hen,hx,hR2,hm2,hs2⟩:=hR.nextE hts
   have hmeas:=hR.left_eq
   obtain ⟨⟨c0,c1⟩,p0,p1⟩:=x
   have hne:=own_ne_range hown hR
   have hrl:=hR.lt
   have hown2:=row_mod hown hm2 (fun k hk e => by
    have hk' : k = w.heap.size:=by simpa using e
    subst hk';exact hne.1 (by rw [hk];simp))
   have hB2 : Below w.heap.size w w2:=hB.trans (hm2.toBelow (by simp) hB.size)
   simp only [bdPr,hdV,handleC] at hn hen
   have hDl : D.length < 1200000000000:=by have:=Hll.out;simp at hlen;omega
   obtain ⟨HR,Hp,Hown,HB,HR2,Hm2,Hs2,Hmeas,HNe,Hown2,HB2,Hx,HDl⟩:=hid13 hR hp hown hB hR2 hm2 hs2 hmeas hne hown2 hB2 hx hDl
   clear hR hp hown hB hR2 hm2 hs2 hmeas hne hown2 hB2 hx hDl
   clear hlen
   go_wp2_with (at_builtin;refine app_bond rfl _ _ rfl w.heap.size (.slice A D.length cap) D ((c0,c1),(p0,p1)) ⟨w2.heap.size + 2,0,none⟩ 1 rfl (((Hown2.out.alloc _).alloc _).alloc _) rfl (new_rec (by simp) rfl) (by have:=HDl.out;omega) (by have:=HB2.out.size;simp;omega) ?_;intro v' w3 hown3 hg3)
   go_roundw
   case rel =>
    refine ⟨D ++ [((c0,c1),(p0,p1))],t1 ++ t2,?_,(mid_perm D t1 t2 _).symm.trans Hp.out,hown3,?_⟩
    ·refine (HR2.out.mod ((((Mod.refl [] w2).alloc _).alloc _).alloc _) (by simp) (by simp)).mod (grown_mod hg3) HNe.out.2 HNe.out.1
    ·exact (((HB2.out.alloc HB2.out.size _).alloc (by have:=HB2.out.size;simp;omega) _).alloc (by have:=HB2.out.size;simp;omega) _).trans ((Below.refl _ _).grown hg3 (by have:=HB2.out.size;simp;omega) (own_ge Hown.out))
   case measure =>
    have h3:=(HR2.out.mod ((((Mod.refl [] w2).alloc _).alloc _).alloc _) (by simp) (by simp)).mod (grown_mod hg3) HNe.out.2 HNe.out.1
    rw [h3.left_eq,Hmeas.out];simp
end
end Go.Proofs.YtfdillpofciicaaGreatDoor
