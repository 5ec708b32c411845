import Derived.Test.YtehjfmjibiafdaaGreatRunSerialsJ23
import Derived.Test.YtehjfmjibiafdaaGreatRunSerialsJ19
/- A part of the proof that RunSerials returns true. -/
namespace Go.Proofs.YtehjfmjibiafdaaGreat
open Go Go.RowKit
variable {{vB : Value}}
attribute [local go_sem] AllFrom.cons_eq AllFrom.nil_eq putF_nil putF_cons wantedL_none wantedL_some OpGoalT OpGoalV OpGoalQ YieldsR preF_nil preF_cons
theorem RepZ.at_ {w : World} {q : Nat} {sl : Sl} {L : List Rw} {F : List Nat} (h : RepZ vB w q sl L F) {i : Nat} (hi : i < L.length) : ∃ vg vl g cap,w.heap[q]? = some (.cells #[vg,vl,.slice (some ⟨g,0,none⟩) L.length cap,vB] 47 (0,0)) ∧ g ∈ F ∧ q ≠ g ∧ g < w.heap.size ∧
  (∀ j u,(rwC L[i])[j]? = some u → w.cell? ⟨g,i * 11 + j,none⟩ = some u) ∧ (∀ o,w.frozen? ⟨g,o,none⟩ = false) ∧
  ∀ j u (x' : Rw),j < 11 → setL (rwC L[i]) j [u] = rwC x' → RepZ vB (w.setCell ⟨g,i * 11 + j,none⟩ u) q sl (L.set i x') F:=by
 obtain ⟨vL,FS,hz,hrow,rfl,hn⟩:=h
 obtain ⟨g,cap,cur,rfl,-,hblk,-⟩:=row_some hrow (by omega)
 have hgF : g ∉ FS:=fun e => (List.nodup_append.1 hn).2.2 g e g (by simp [Value.ownBlock]) rfl
 have hM : ∀ o u,Mod [g] w (w.setCell ⟨g,o,none⟩ u):=fun o u => (Mod.refl _ _).setCell (.inl (by simp)) u
 obtain ⟨vg,vl,hq,h2⟩:=id hz
 have hqF : q ∈ FS:=by obtain ⟨_,_,rfl,_⟩:=h2;simp
 have hqg : q ≠ g:=fun e => hgF (e ▸ hqF)
 refine ⟨vg,vl,g,cap,hq,by simp [Value.ownBlock],hqg,blk_lt hblk,fun j u hu => ?_,blk_free hblk,fun j u x' hj hx => ?_⟩
 ·obtain ⟨g',cap',e,hc⟩:=row_rec rwC_len hrow hi
  cases e
  exact hc j u hu
 ·refine ⟨_,FS,hz.mod (hM _ u) (fun k hk e => by simp at e;exact hgF (e ▸ hk)),?_,rfl,hn⟩
  have h3:=row_set hrow (i * 11 + j) u
  have h4 : (L.flatMap rwC).set (i * 11 + j) u = (L.set i x').flatMap rwC:=setL_flat rwC_len L i hi j [u] x' (by simp;omega) hx
  rw [h4] at h3
  rw [List.length_set]
  exact h3
theorem rw_kinds (x : Rw) (K : Int) : setL (rwC x) 2 [.int .i64 K] = rwC (x.1,(K,x.2.2)):=by
 obtain ⟨⟨s,g⟩,K',a0,a1,a2,a3,a4,a5,a6,a7⟩:=x
 rfl
theorem set_twice {L : List Rw} {i : Nat} (x y : Rw) : (L.set i x).set i y = L.set i y:=List.set_set ..
theorem rw_kind0 (x : Rw) : (rwC x)[2]? = some (.int .i64 x.2.1):=by
 obtain ⟨⟨s,g⟩,K',a0,a1,a2,a3,a4,a5,a6,a7⟩:=x
 rfl
theorem pwK_le (j : Nat) (hj : j < 8) : pw j ≤ 128 ∧ 0 ≤ pw j:=by
 have : ∀ j : Fin 8,pw j.val ≤ 128 ∧ 0 ≤ pw j.val:=by decide
 exact this ⟨j,hj⟩
theorem wrapM (z : Int) (h1 : -1000000 ≤ z) (h2 : z ≤ 1000000) : IntKind.i64.wrap z = z:=by
 by_cases h : 0 ≤ z
 ·exact wrapSmall z h h2
 ·have e : z % 2 ^ 64 = z + 2 ^ 64:=by
   rw [← Int.add_emod_right]
   exact Int.emod_eq_of_lt (by omega) (by omega)
  simp only [IntKind.wrap,IntKind.bits,IntKind.signed,e,Bool.true_and,decide_eq_true_eq]
  split <;> omega
theorem powK_any (j : Nat) (hj : j < 8) (w : World) : Calls Tryz.prog 103 #[.int .i64 (j : Int)] w fun e w' => e = .returned (.int .i64 (pw j)) ∧ w = w':=by
 exact power_any j (by omega) w
section
variable {w : World} {q : Nat} {sl : Sl} {L : List Rw} {F : List Nat}
theorem putE_some {h : Hd} {i : Nat} {k n : Int} (hi : idxL L h = some i) : putE L h k n = if putBad k n then 1 else 0:=by unfold putE;rw [hi]
theorem putE_none {h : Hd} {k n : Int} (hi : idxL L h = none) : putE L h k n = 7:=by unfold putE;rw [hi]
theorem putW_some {h : Hd} {i : Nat} {k n : Int} (hi : idxL L h = some i) : putW L h k n = if putBad k n then L else L.modify i (fun x => putR x k.toNat n):=by unfold putW;rw [hi]
theorem putW_none {h : Hd} {k n : Int} (hi : idxL L h = none) : putW L h k n = L:=by unfold putW;rw [hi]
theorem dropE_some {h : Hd} {i : Nat} {k : Int} (hi : idxL L h = some i) (hl : i < L.length) : dropE L h k = if k < 0 ∨ 7 < k then 1 else if hasK L[i].2.1 k.toNat = true then 0 else 5:=by unfold dropE;rw [hi];simp only;rw [List.getD_eq_getElem?_getD,List.getElem?_eq_getElem hl];rfl
theorem dropE_none {h : Hd} {k : Int} (hi : idxL L h = none) : dropE L h k = 7:=by unfold dropE;rw [hi]
theorem dropL_some {h : Hd} {i : Nat} {k : Int} (hi : idxL L h = some i) : dropL L h k = if dropE L h k = 0 then L.modify i (fun x => dropR x k.toNat) else L:=by unfold dropL;rw [hi]
theorem dropL_none {h : Hd} {k : Int} (hi : idxL L h = none) : dropL L h k = L:=by unfold dropL;rw [hi]
theorem putR_has {x : Rw} {j : Nat} {n : Int} (h : hasK x.2.1 j = true) : putR x j n = rwSet x j n:=by
 unfold putR putK;rw [if_pos h]
 obtain ⟨⟨s,g⟩,K',a0,a1,a2,a3,a4,a5,a6,a7⟩:=x
 rfl
theorem putR_not {x : Rw} {j : Nat} {n : Int} (h : hasK x.2.1 j = false) : putR x j n = rwSet (x.1,(x.2.1 + pw j,x.2.2)) j n:=by
 unfold putR putK;rw [if_neg (by rw [h];simp)]
 obtain ⟨⟨s,g⟩,K',a0,a1,a2,a3,a4,a5,a6,a7⟩:=x
 rfl
theorem dropR_eq {x : Rw} {j : Nat} : dropR x j = rwSet (x.1,(x.2.1 - pw j,x.2.2)) j 0:=by
 unfold dropR
 obtain ⟨⟨s,g⟩,K',a0,a1,a2,a3,a4,a5,a6,a7⟩:=x
 rfl
set_option maxRecDepth 20000 in
set_option maxHeartbeats 4000000 in
theorem zput_dead (h : RepZ vB w q sl L F) (hO : WOk sl L) (s g k n : Int) (hi : idxL L (s,g) = none) :
  Calls Tryz.prog 49 #[.pointer (some ⟨q,0,none⟩),.agg #[.int .i64 s,.int .i64 g],.int .i64 k,.int .i64 n] w (ZRet vB q sl L F w (.int .i64 7)):=by
 obtain ⟨w0,hw0,hb0,hz0,hs0⟩:=box1 w (.cells #[.int .i64 s,.int .i64 g] 41)
 have hl:=hO.len
 have h1:=at_any (h.below hb0) hl s g
 obtain ⟨q0,q1,ql⟩:=cells2 hz0
 rw [atI_none hi] at h1
 obtain ⟨H,H1,Hb,HS⟩:=hid4 h h1 hb0 hs0
 clear h h1 hb0 hs0
 clear hz0 hi hO
 go_enter Tryz.func49,Tryz.ntmps49
 go_wp2_with fail
 clear hw0
 refine H1.out.mono ?_
 rintro e w1 ⟨rfl,hb1⟩
 have HB:=Lib.hid (Hb.out.trans (hb1.mono Hb.out.size))
 clear hb1 q0 q1 ql
 go_wp2
 go_ret
 exact ⟨rfl,F,H.out.below HB.out,Turns.ofBelow HB.out⟩
set_option maxRecDepth 20000 in
set_option maxHeartbeats 4000000 in
theorem zput_bad (h : RepZ vB w q sl L F) (hO : WOk sl L) (s g k n : Int) {i : Nat} (hi : idxL L (s,g) = some i) (hp : putBad k n) :
  Calls Tryz.prog 49 #[.pointer (some ⟨q,0,none⟩),.agg #[.int .i64 s,.int .i64 g],.int .i64 k,.int .i64 n] w (ZRet vB q sl L F w (.int .i64 1)):=by
 have hcase : (outsideB k 0 7 = true) ∨ (outsideB k 0 7 = false ∧ outsideB n (-1000000000) 1000000000 = true):=by
  unfold outsideB
  unfold putBad at hp
  rcases hp with hp | hp
  ·left;simp;omega
  ·by_cases hk : k < 0 ∨ 7 < k
   ·left;simp;omega
   ·right;simp;omega
 obtain ⟨w0,hw0,hb0,hz0,hs0⟩:=box1 w (.cells #[.int .i64 s,.int .i64 g] 41)
 have hl:=hO.len
 have h1:=at_any (h.below hb0) hl s g
 obtain ⟨q0,q1,ql⟩:=cells2 hz0
 rw [atI_some hi] at h1
 have hin : (decide ((i : Int) < 0)) = false:=by simp
 obtain ⟨H,H1,Hb,HS⟩:=hid4 h h1 hb0 hs0
 clear h h1 hb0 hs0
 clear hz0 hi hO hp
 rcases hcase with hc | ⟨hc,hc2⟩
 ·have H2:=Lib.hid (outKind_any k true hc)
  clear hc
  go_enter Tryz.func49,Tryz.ntmps49
  go_wp2_with fail
  clear hw0
  refine H1.out.mono ?_
  rintro e w1 ⟨rfl,hb1⟩
  have HB:=Lib.hid (Hb.out.trans (hb1.mono Hb.out.size))
  clear hb1 q0 q1 ql
  go_wp2_with fail
  refine (H2.out _).mono ?_
  rintro e w2 ⟨rfl,rfl⟩
  go_wp2
  go_ret
  exact ⟨rfl,F,H.out.below HB.out,Turns.ofBelow HB.out⟩
 ·have H2:=Lib.hid (outKind_any k false hc)
  have H3:=Lib.hid (outN_any n true hc2)
  clear hc hc2
  go_enter Tryz.func49,Tryz.ntmps49
  go_wp2_with fail
  clear hw0
  refine H1.out.mono ?_
  rintro e w1 ⟨rfl,hb1⟩
  have HB:=Lib.hid (Hb.out.trans (hb1.mono Hb.out.size))
  clear hb1 q0 q1 ql
  go_wp2_with fail
  refine (H2.out _).mono ?_
  rintro e w2 ⟨rfl,rfl⟩
  go_wp2_with fail
  refine (H3.out _).mono ?_
  rintro e w2 ⟨rfl,rfl⟩
  go_wp2
  go_ret
  exact ⟨rfl,F,H.out.below HB.out,Turns.ofBelow HB.out⟩
set_option maxRecDepth 20000 in
set_option maxHeartbeats 8000000 in
theorem zput_has (h : RepZ vB w q sl L F) (hO : WOk sl L) (s g n : Int) (j : Nat) (hj : j < 8) {i : Nat} (hi : idxL L (s,g) = some i) (hl : i < L.length) (hh : hasK L[i].2.1 j = true) (hp : ¬ putBad (j : Int) n) :
  Calls Tryz.prog 49 #[.pointer (some ⟨q,0,none⟩),.agg #[.int .i64 s,.int .i64 g],.int .i64 (j : Int),.int .i64 n] w (ZRet vB q sl (L.set i (rwSet L[i] j n)) F w (.int .i64 0)):=by
 obtain ⟨hil,hie⟩:=idx_some hi
 obtain ⟨m,hm,hK,-⟩:=(beastZ_iff _).1 (hO.be L[i] (List.getElem_mem hil))
 obtain ⟨x,hx⟩ : ∃ x,L[i] = x:=⟨_,rfl⟩
 rw [hx] at hK hh
 rw [hK,hasK_nat m j hm] at hh
 have hkc:=rw_kind0 x
 rw [hK] at hkc
 obtain ⟨w0,hw0,hb0,hz0,hs0⟩:=box1 w (.cells #[.int .i64 s,.int .i64 g] 41)
 have hl:=hO.len
 have h1:=at_any (h.below hb0) hl s g
 obtain ⟨q0,q1,ql⟩:=cells2 hz0
 rw [atI_some hi] at h1
 have hin : (decide ((i : Int) < 0)) = false:=by simp
 have H2:=Lib.hid (outKind_any (j : Int) false (by unfold outsideB;simp;omega))
 have H3:=Lib.hid (outN_any n false (by unfold outsideB;unfold putBad at hp;simp;omega))
 have hmp:=h.open_
 obtain ⟨vg,vl,A,cap,hq,hrow⟩:=hmp
 have hil2 : (i : Int) < (L.length : Int):=by omega
 have hji : (j : Int) < 8:=by omega
 rw [hx]
 have H4:=Lib.hid (hasKn2_any m j hm hj true hh)
 have hpw:=pwK_le j hj
 obtain ⟨H,H1,Hb,HS,Hx,Hkc,Hrow,HK,Hpw,Hq⟩:=hid10 h h1 hb0 hs0 hx hkc hrow hK hpw hq
 clear h h1 hb0 hs0 hx hkc hrow hK hpw hq
 clear hz0 hi hO hie hh hp
 go_enter Tryz.func49,Tryz.ntmps49
 go_wp2_with fail
 clear hw0
 refine H1.out.mono ?_
 rintro e w1 ⟨rfl,hb1⟩
 have hb01 : Below w.heap.size w w1:=Hb.out.trans (hb1.mono Hb.out.size)
 have hqw:=blk_lt Hq.out
 have h5:=copyRows_any w1 _ L (row_mod Hrow.out (Mod.ofBelow hb01) (by simp)) (by omega)
 have hq1:=(Mod.ofBelow hb01).keep Hq.out (by simp)
 have c0:=blk_cell hq1 2
 simp only [eA,eZ,eS] at c0
 have hql:=blk_lt hq1
 obtain ⟨Hb1,H5,Hq1⟩:=hid3 hb01 h5 hq1
 clear hb01 h5 hq1
 clear hb1 q0 q1 ql
 go_wp2_with fail
 refine (H2.out _).mono ?_
 rintro e w2 ⟨rfl,rfl⟩
 go_wp2_with fail
 refine (H3.out _).mono ?_
 rintro e w2 ⟨rfl,rfl⟩
 go_wp2_with fail
 refine H5.out.mono ?_
 rintro e w2 ⟨v,rfl,hown,hb2⟩
 obtain ⟨A2,cap2,hv2,-,-⟩:=row_slice hown
 have hb02 : Below w.heap.size w w2:=Hb1.out.trans (hb2.mono Hb1.out.size)
 obtain ⟨FS,-,-,-,-,hT,hR⟩:=RepZ.turn H.out hb02 (row_base hown (B':=w.heap.size) (fun k hk => by have:=(hown.lt k hk).1;have:=Hb1.out.size;omega))
 have hq2:=(Mod.ofBelow hb02).keep Hq.out (by simp)
 have d0:=blk_cell hq2 2
 simp only [eA,eZ,eS] at d0
 have f0:=blk_free hq2 2
 have hql2:=blk_lt hq2
 obtain ⟨F3,hF3⟩ : ∃ F3,F3 = FS ++ v.ownBlock.toList:=⟨_,rfl⟩
 rw [← hF3] at hT hR
 subst hv2
 obtain ⟨w3,hw3⟩ : ∃ w3,w2.setCell ⟨q,2,none⟩ (Value.slice A2 L.length cap2) = w3:=⟨_,rfl⟩
 rw [hw3] at hT hR
 obtain ⟨vg3,vl3,g3,cap3,hq3,hgF3,hqg3,hgl3,hcell3,hfz3,hset3⟩:=hR.at_ hil
 rw [Hx.out] at hcell3 hset3
 have e0:=blk_cell hq3 2
 simp only [eA,eZ,eS] at e0
 have hql3:=blk_lt hq3
 have e2:=hcell3 2 _ Hkc.out
 clear c0 hql
 obtain ⟨Hown,Hb2,Hb02,HT,HR,Hcell3,Hset3,Hfz3,Hq3⟩:=hid9 hown hb2 hb02 hT hR hcell3 hset3 hfz3 hq3
 clear hown hb2 hb02 hT hR hcell3 hset3 hfz3 hq3
 clear hq2 hF3
 go_wp2_with fail
 clear d0 f0 hql2
 refine (H4.out _).mono ?_
 rintro e w4 ⟨rfl,rfl⟩
 clear hw3
 have HW:=Lib.hid (show ∀ y,Turns w F F3 y → ∀ u o,Turns w F F3 (y.setCell ⟨g3,o,none⟩ u) from fun y hy u o => hy.trans ⟨(Mod.refl _ _).setCell (.inl hgF3) _,fun k hk => .inl hk⟩)
 have e3:=Hcell3.out (3 + j) _ (valK_lt j hj x)
 rw [show i * 11 + (3 + j) = i * 11 + 2 + 1 + j by omega] at e3
 have f3:=Hfz3.out (i * 11 + 2 + 1 + j)
 have HS:=Lib.hid (Hset3.out (3 + j) (.int .i64 n) (rwSet x j n) (by omega) (rwSet_cells x j hj n))
 rw [show i * 11 + (3 + j) = i * 11 + 2 + 1 + j by omega] at HS
 clear e2
 go_wp2
 go_ret
 exact ⟨rfl,F3,HS.out,HW.out _ HT.out _ _⟩
set_option maxRecDepth 20000 in
set_option maxHeartbeats 8000000 in
theorem zput_new (h : RepZ vB w q sl L F) (hO : WOk sl L) (s g n : Int) (j : Nat) (hj : j < 8) {i : Nat} (hi : idxL L (s,g) = some i) (hl : i < L.length) (hh : hasK L[i].2.1 j = false) (hp : ¬ putBad (j : Int) n) :
  Calls Tryz.prog 49 #[.pointer (some ⟨q,0,none⟩),.agg #[.int .i64 s,.int .i64 g],.int .i64 (j : Int),.int .i64 n] w (ZRet vB q sl (L.set i (rwSet (L[i].1,(L[i].2.1 + pw j,L[i].2.2)) j n)) F w (.int .i64 0)):=by
 obtain ⟨hil,hie⟩:=idx_some hi
 obtain ⟨m,hm,hK,-⟩:=(beastZ_iff _).1 (hO.be L[i] (List.getElem_mem hil))
 obtain ⟨x,hx⟩ : ∃ x,L[i] = x:=⟨_,rfl⟩
 rw [hx] at hK hh
 rw [hK,hasK_nat m j hm] at hh
 have hkc:=rw_kind0 x
 rw [hK] at hkc
 obtain ⟨w0,hw0,hb0,hz0,hs0⟩:=box1 w (.cells #[.int .i64 s,.int .i64 g] 41)
 have hl:=hO.len
 have h1:=at_any (h.below hb0) hl s g
 obtain ⟨q0,q1,ql⟩:=cells2 hz0
 rw [atI_some hi] at h1
 have hin : (decide ((i : Int) < 0)) = false:=by simp
 have H2:=Lib.hid (outKind_any (j : Int) false (by unfold outsideB;simp;omega))
 have H3:=Lib.hid (outN_any n false (by unfold outsideB;unfold putBad at hp;simp;omega))
 have hmp:=h.open_
 obtain ⟨vg,vl,A,cap,hq,hrow⟩:=hmp
 have hil2 : (i : Int) < (L.length : Int):=by omega
 have hji : (j : Int) < 8:=by omega
 rw [hx]
 have H4:=Lib.hid (hasKn2_any m j hm hj false hh)
 have hpw:=pwK_le j hj
 obtain ⟨H,H1,Hb,HS,Hx,Hkc,Hrow,HK,Hpw,Hq⟩:=hid10 h h1 hb0 hs0 hx hkc hrow hK hpw hq
 clear h h1 hb0 hs0 hx hkc hrow hK hpw hq
 clear hz0 hi hO hie hh hp
 go_enter Tryz.func49,Tryz.ntmps49
 go_wp2_with fail
 clear hw0
 refine H1.out.mono ?_
 rintro e w1 ⟨rfl,hb1⟩
 have hb01 : Below w.heap.size w w1:=Hb.out.trans (hb1.mono Hb.out.size)
 have hqw:=blk_lt Hq.out
 have h5:=copyRows_any w1 _ L (row_mod Hrow.out (Mod.ofBelow hb01) (by simp)) (by omega)
 have hq1:=(Mod.ofBelow hb01).keep Hq.out (by simp)
 have c0:=blk_cell hq1 2
 simp only [eA,eZ,eS] at c0
 have hql:=blk_lt hq1
 obtain ⟨Hb1,H5,Hq1⟩:=hid3 hb01 h5 hq1
 clear hb01 h5 hq1
 clear hb1 q0 q1 ql
 go_wp2_with fail
 refine (H2.out _).mono ?_
 rintro e w2 ⟨rfl,rfl⟩
 go_wp2_with fail
 refine (H3.out _).mono ?_
 rintro e w2 ⟨rfl,rfl⟩
 go_wp2_with fail
 refine H5.out.mono ?_
 rintro e w2 ⟨v,rfl,hown,hb2⟩
 obtain ⟨A2,cap2,hv2,-,-⟩:=row_slice hown
 have hb02 : Below w.heap.size w w2:=Hb1.out.trans (hb2.mono Hb1.out.size)
 obtain ⟨FS,-,-,-,-,hT,hR⟩:=RepZ.turn H.out hb02 (row_base hown (B':=w.heap.size) (fun k hk => by have:=(hown.lt k hk).1;have:=Hb1.out.size;omega))
 have hq2:=(Mod.ofBelow hb02).keep Hq.out (by simp)
 have d0:=blk_cell hq2 2
 simp only [eA,eZ,eS] at d0
 have f0:=blk_free hq2 2
 have hql2:=blk_lt hq2
 obtain ⟨F3,hF3⟩ : ∃ F3,F3 = FS ++ v.ownBlock.toList:=⟨_,rfl⟩
 rw [← hF3] at hT hR
 subst hv2
 obtain ⟨w3,hw3⟩ : ∃ w3,w2.setCell ⟨q,2,none⟩ (Value.slice A2 L.length cap2) = w3:=⟨_,rfl⟩
 rw [hw3] at hT hR
 obtain ⟨vg3,vl3,g3,cap3,hq3,hgF3,hqg3,hgl3,hcell3,hfz3,hset3⟩:=hR.at_ hil
 rw [Hx.out] at hcell3 hset3
 have e0:=blk_cell hq3 2
 simp only [eA,eZ,eS] at e0
 have hql3:=blk_lt hq3
 have e2:=hcell3 2 _ Hkc.out
 clear c0 hql
 obtain ⟨Hown,Hb2,Hb02,HT,HR,Hcell3,Hset3,Hfz3,Hq3⟩:=hid9 hown hb2 hb02 hT hR hcell3 hset3 hfz3 hq3
 clear hown hb2 hb02 hT hR hcell3 hset3 hfz3 hq3
 clear hq2 hF3
 go_wp2_with fail
 clear d0 f0 hql2
 refine (H4.out _).mono ?_
 rintro e w4 ⟨rfl,rfl⟩
 clear hw3
 have HW:=Lib.hid (show ∀ y,Turns w F F3 y → ∀ u o,Turns w F F3 (y.setCell ⟨g3,o,none⟩ u) from fun y hy u o => hy.trans ⟨(Mod.refl _ _).setCell (.inl hgF3) _,fun k hk => .inl hk⟩)
 have H6:=Lib.hid (powK_any j hj)
 have hwr:=wrapM ((m : Int) + pw j) (by have:=Hpw.out;omega) (by have:=Hpw.out;omega)
 have f2:=Hfz3.out (i * 11 + 2)
 obtain ⟨x1,hx1⟩ : ∃ x1 : Rw,x1 = (x.1,(x.2.1 + pw j,x.2.2)):=⟨_,rfl⟩
 have hs5:=Hset3.out 2 (.int .i64 ((m : Int) + pw j)) x1 (by omega) (by rw [hx1,HK.out];exact rw_kinds x _)
 have hb3 : Below w3.heap.size w3 w3.drew:=below_drew
 have hs5:=hs5
 obtain ⟨w5,hw5⟩ : ∃ w5,(w3.setCell ⟨g3,i * 11 + 2,none⟩ (.int .i64 ((m : Int) + pw j))).drew = w5:=⟨_,rfl⟩
 have hb5 : Below (w3.setCell ⟨g3,i * 11 + 2,none⟩ (.int .i64 ((m : Int) + pw j))).heap.size (w3.setCell ⟨g3,i * 11 + 2,none⟩ (.int .i64 ((m : Int) + pw j))) w5:=by rw [← hw5];exact below_drew
 have hR5:=hs5.below hb5
 have hT5:=(HW.out _ HT.out (.int .i64 ((m : Int) + pw j)) (i * 11 + 2)).below hb5
 have hil5 : i < (L.set i x1).length:=by rw [List.length_set];exact hil
 obtain ⟨vg5,vl5,g5,cap5,hq5,hgF5,hqg5,hgl5,hcell5,hfz5,hset5⟩:=hR5.at_ hil5
 rw [List.getElem_set_self] at hcell5 hset5
 rw [List.length_set] at hq5
 obtain ⟨Hb5,HR5,HT5,Hcell5,Hset5,Hfz5,Hq5,Hx1,Hw5,HgF5⟩:=hid10 hb5 hR5 hT5 hcell5 hset5 hfz5 hq5 hx1 hw5 hgF5
 clear hb5 hR5 hT5 hcell5 hset5 hfz5 hq5 hx1 hw5 hgF5
 clear hs5 hb3
 go_wp2_with fail
 refine wp_planR 15 [0,4,9] [some 41,some 42,some 43,some 44,some 45,some 46,some 47,some 48,some 49,some 50,some 51,some 52,some 53,some 54,some 55,none] [[],[0],[0,1],[0,1,2],[],[0,1,2,3,4],[0,1,2,3,4,5],[0,1,2,3,4,5,6],[0,1,2,3,4,5,6,7],[],[9],[0,1,2,3,4,5,6,7,8,9,10],[0,1,2,3,4,5,6,7,8,9,10,11],[0,1,2,3,4,5,6,7,8,9,10,11,12],[0,1,2,3,4,5,6,7,8,9,10,11,12,13],[0,1,2,3,4,5,6,7,8,9,10,11,12,13,14]] [0,1,2,3,4,5,6,7,8,9,10,11,12,13,14] mixed rfl (by kernel_rfl) (by decide) (by decide) rfl ?_
 iterate 15 apply Exists.intro
 refine ⟨rfl,?_,?_⟩
 ·simp only [tS,List.take_zero,AllFrom.cons_eq,AllFrom.nil_eq,OpGoalQ]
  refine ⟨?_,?_,?_,?_,?_,?_,?_,?_,?_,?_,?_,?_,?_,?_,?_,trivial⟩
  all_goals (intro σ hp;(try simp only [gZ,gS,mC,mN,preF_cons,preF_nil,isV,and_true] at hp);(first | (have hq : True:=hp;clear hq hp) | skip))
  iterate 10 · (go_simp;exact ⟨rfl,rfl⟩)
  ·(go_simp;refine (H6.out _).mono ?_;rintro e w4 ⟨rfl,rfl⟩;exact ⟨_,rfl,rfl,rfl⟩)
  iterate 4 · (go_simp;exact ⟨rfl,rfl⟩)
 intro σ hp
 simp only [gZ,gS,mC,mN,preF_cons,preF_nil,isV,and_true] at hp
 simp only [dS,List.drop_zero]
 go_simp
 clear hp
 go_wp2_with fail
 refine ⟨rfl,?_⟩
 rw [Hw5.out]
 clear e0 e2 hql3 f2 hwr hqg3 hgl3
 have e0:=blk_cell Hq5.out 2
 simp only [eA,eZ,eS] at e0
 have hql3:=blk_lt Hq5.out
 have e3:=Hcell5.out (3 + j) _ (valK_lt j hj x1)
 rw [show i * 11 + (3 + j) = i * 11 + 2 + 1 + j by omega] at e3
 have f3:=Hfz5.out (i * 11 + 2 + 1 + j)
 have hs6:=Hset5.out (3 + j) (.int .i64 n) (rwSet x1 j n) (by omega) (rwSet_cells x1 j hj n)
 rw [show i * 11 + (3 + j) = i * 11 + 2 + 1 + j by omega,set_twice] at hs6
 have HS:=Lib.hid hs6
 have HT6:=Lib.hid (HT5.out.trans (⟨(Mod.refl _ _).setCell (p:=⟨g5,i * 11 + 2 + 1 + j,none⟩) (.inl HgF5.out) (.int .i64 n),fun k hk => .inl hk⟩ : Turns w5 F3 F3 _))
 clear hs6
 go_wp2
 go_ret
 exact ⟨rfl,F3,by have h7:=HS.out;rw [Hx1.out] at h7;exact h7,HT6.out⟩
set_option maxRecDepth 20000 in
set_option maxHeartbeats 4000000 in
theorem zdrop_dead (h : RepZ vB w q sl L F) (hO : WOk sl L) (s g k : Int) (hi : idxL L (s,g) = none) :
  Calls Tryz.prog 50 #[.pointer (some ⟨q,0,none⟩),.agg #[.int .i64 s,.int .i64 g],.int .i64 k] w (ZRet vB q sl L F w (.int .i64 7)):=by
 obtain ⟨w0,hw0,hb0,hz0,hs0⟩:=box1 w (.cells #[.int .i64 s,.int .i64 g] 41)
 have hl:=hO.len
 have h1:=at_any (h.below hb0) hl s g
 obtain ⟨q0,q1,ql⟩:=cells2 hz0
 rw [atI_none hi] at h1
 obtain ⟨H,H1,Hb,HS⟩:=hid4 h h1 hb0 hs0
 clear h h1 hb0 hs0
 clear hz0 hi hO
 go_enter Tryz.func50,Tryz.ntmps50
 go_wp2_with fail
 clear hw0
 refine H1.out.mono ?_
 rintro e w1 ⟨rfl,hb1⟩
 have HB:=Lib.hid (Hb.out.trans (hb1.mono Hb.out.size))
 clear hb1 q0 q1 ql
 go_wp2
 go_ret
 exact ⟨rfl,F,H.out.below HB.out,Turns.ofBelow HB.out⟩
set_option maxRecDepth 20000 in
set_option maxHeartbeats 4000000 in
theorem zdrop_bad (h : RepZ vB w q sl L F) (hO : WOk sl L) (s g k : Int) {i : Nat} (hi : idxL L (s,g) = some i) (hp : k < 0 ∨ 7 < k) :
  Calls Tryz.prog 50 #[.pointer (some ⟨q,0,none⟩),.agg #[.int .i64 s,.int .i64 g],.int .i64 k] w (ZRet vB q sl L F w (.int .i64 1)):=by
 have hcase : outsideB k 0 7 = true:=by unfold outsideB;simp;omega
 obtain ⟨w0,hw0,hb0,hz0,hs0⟩:=box1 w (.cells #[.int .i64 s,.int .i64 g] 41)
 have hl:=hO.len
 have h1:=at_any (h.below hb0) hl s g
 obtain ⟨q0,q1,ql⟩:=cells2 hz0
 rw [atI_some hi] at h1
 have hin : (decide ((i : Int) < 0)) = false:=by simp
 obtain ⟨H,H1,Hb,HS⟩:=hid4 h h1 hb0 hs0
 clear h h1 hb0 hs0
 clear hz0 hi hO hp
 have H2:=Lib.hid (outKind_any k true hcase)
 clear hcase
 go_enter Tryz.func50,Tryz.ntmps50
 go_wp2_with fail
 clear hw0
 refine H1.out.mono ?_
 rintro e w1 ⟨rfl,hb1⟩
 have HB:=Lib.hid (Hb.out.trans (hb1.mono Hb.out.size))
 clear hb1 q0 q1 ql
 go_wp2_with fail
 refine (H2.out _).mono ?_
 rintro e w2 ⟨rfl,rfl⟩
 go_wp2
 go_ret
 exact ⟨rfl,F,H.out.below HB.out,Turns.ofBelow HB.out⟩
set_option maxRecDepth 20000 in
set_option maxHeartbeats 4000000 in
theorem zdrop_not (h : RepZ vB w q sl L F) (hO : WOk sl L) (s g : Int) (j : Nat) (hj : j < 8) {i : Nat} (hi : idxL L (s,g) = some i) (hl : i < L.length) (hh : hasK L[i].2.1 j = false) :
  Calls Tryz.prog 50 #[.pointer (some ⟨q,0,none⟩),.agg #[.int .i64 s,.int .i64 g],.int .i64 (j : Int)] w (ZRet vB q sl L F w (.int .i64 5)):=by
 obtain ⟨hil,hie⟩:=idx_some hi
 obtain ⟨m,hm,hK,-⟩:=(beastZ_iff _).1 (hO.be L[i] (List.getElem_mem hil))
 obtain ⟨x,hx⟩ : ∃ x,L[i] = x:=⟨_,rfl⟩
 rw [hx] at hK hh
 rw [hK,hasK_nat m j hm] at hh
 have hkc:=rw_kind0 x
 rw [hK] at hkc
 obtain ⟨w0,hw0,hb0,hz0,hs0⟩:=box1 w (.cells #[.int .i64 s,.int .i64 g] 41)
 have hl:=hO.len
 have h1:=at_any (h.below hb0) hl s g
 obtain ⟨q0,q1,ql⟩:=cells2 hz0
 rw [atI_some hi] at h1
 have hin : (decide ((i : Int) < 0)) = false:=by simp
 have H2:=Lib.hid (outKind_any (j : Int) false (by unfold outsideB;simp;omega))
 have hmp:=h.open_
 obtain ⟨vg,vl,A,cap,hq,hrow⟩:=hmp
 have hil2 : (i : Int) < (L.length : Int):=by omega
 have hji : (j : Int) < 8:=by omega
 have H4:=Lib.hid (hasKn2_any m j hm hj false hh)
 obtain ⟨H,H1,Hb,HS,Hx,Hkc⟩:=hid6 h h1 hb0 hs0 hx hkc
 clear h h1 hb0 hs0 hx hkc
 clear hz0 hi hO hie hq hrow
 go_enter Tryz.func50,Tryz.ntmps50
 go_wp2_with fail
 clear hw0
 refine H1.out.mono ?_
 rintro e w1 ⟨rfl,hb1⟩
 have HB:=Lib.hid (Hb.out.trans (hb1.mono Hb.out.size))
 clear hb1 q0 q1 ql
 obtain ⟨vg,vl,g0,cap,hq,hgF,hqg,hgl,hcell,hfz,-⟩:=(H.out.below HB.out).at_ hil
 rw [Hx.out] at hcell
 have c2:=hcell 2 _ Hkc.out
 have c0:=blk_cell hq 2
 simp only [eA,eZ,eS] at c0
 have hql:=blk_lt hq
 clear hq hcell hfz
 go_wp2_with fail
 refine (H2.out _).mono ?_
 rintro e w2 ⟨rfl,rfl⟩
 go_wp2_with fail
 refine (H4.out _).mono ?_
 rintro e w2 ⟨rfl,rfl⟩
 go_wp2
 go_ret
 exact ⟨rfl,F,H.out.below HB.out,Turns.ofBelow HB.out⟩
set_option maxRecDepth 20000 in
set_option maxHeartbeats 8000000 in
theorem zdrop_has (h : RepZ vB w q sl L F) (hO : WOk sl L) (s g : Int) (j : Nat) (hj : j < 8) {i : Nat} (hi : idxL L (s,g) = some i) (hl : i < L.length) (hh : hasK L[i].2.1 j = true) :
  Calls Tryz.prog 50 #[.pointer (some ⟨q,0,none⟩),.agg #[.int .i64 s,.int .i64 g],.int .i64 (j : Int)] w (ZRet vB q sl (L.set i (rwSet (L[i].1,(L[i].2.1 - pw j,L[i].2.2)) j 0)) F w (.int .i64 0)):=by
 obtain ⟨hil,hie⟩:=idx_some hi
 obtain ⟨m,hm,hK,-⟩:=(beastZ_iff _).1 (hO.be L[i] (List.getElem_mem hil))
 obtain ⟨x,hx⟩ : ∃ x,L[i] = x:=⟨_,rfl⟩
 rw [hx] at hK hh
 rw [hK,hasK_nat m j hm] at hh
 have hkc:=rw_kind0 x
 rw [hK] at hkc
 obtain ⟨w0,hw0,hb0,hz0,hs0⟩:=box1 w (.cells #[.int .i64 s,.int .i64 g] 41)
 have hl:=hO.len
 have h1:=at_any (h.below hb0) hl s g
 obtain ⟨q0,q1,ql⟩:=cells2 hz0
 rw [atI_some hi] at h1
 have hin : (decide ((i : Int) < 0)) = false:=by simp
 have H2:=Lib.hid (outKind_any (j : Int) false (by unfold outsideB;simp;omega))
 have hmp:=h.open_
 obtain ⟨vg,vl,A,cap,hq,hrow⟩:=hmp
 have hil2 : (i : Int) < (L.length : Int):=by omega
 have hji : (j : Int) < 8:=by omega
 rw [hx]
 have H4:=Lib.hid (hasKn2_any m j hm hj true hh)
 have hpw:=pwK_le j hj
 obtain ⟨H,H1,Hb,HS,Hx,Hkc,Hrow,HK,Hpw,Hq⟩:=hid10 h h1 hb0 hs0 hx hkc hrow hK hpw hq
 clear h h1 hb0 hs0 hx hkc hrow hK hpw hq
 clear hz0 hi hO hie hh
 go_enter Tryz.func50,Tryz.ntmps50
 go_wp2_with fail
 clear hw0
 refine H1.out.mono ?_
 rintro e w1 ⟨rfl,hb1⟩
 have hb01 : Below w.heap.size w w1:=Hb.out.trans (hb1.mono Hb.out.size)
 have hqw:=blk_lt Hq.out
 have h5:=copyRows_any w1 _ L (row_mod Hrow.out (Mod.ofBelow hb01) (by simp)) (by omega)
 have hq1:=(Mod.ofBelow hb01).keep Hq.out (by simp)
 obtain ⟨vg',vl',g0,cap',hq',hgF,hqg,hgl,hcell,hfz,-⟩:=(H.out.below hb01).at_ hil
 have e:=hq1.symm.trans hq'
 simp only [Option.some.injEq,Obj.cells.injEq,Array.mk.injEq,List.cons.injEq,Value.slice.injEq,and_true,true_and] at e
 obtain ⟨-,-,rfl,rfl⟩:=e
 rw [Hx.out] at hcell
 have c2:=hcell 2 _ Hkc.out
 have c0:=blk_cell hq1 2
 simp only [eA,eZ,eS] at c0
 have hql:=blk_lt hq1
 obtain ⟨Hb1,H5,Hq1⟩:=hid3 hb01 h5 hq1
 clear hb01 h5 hq1
 clear hb1 q0 q1 ql hq' hcell hfz
 go_wp2_with fail
 refine (H2.out _).mono ?_
 rintro e w2 ⟨rfl,rfl⟩
 go_wp2_with fail
 refine (H4.out _).mono ?_
 rintro e w2 ⟨rfl,rfl⟩
 clear c2 hqg hgl
 go_wp2_with fail
 refine H5.out.mono ?_
 rintro e w2 ⟨v,rfl,hown,hb2⟩
 obtain ⟨A2,cap2,hv2,-,-⟩:=row_slice hown
 have hb02 : Below w.heap.size w w2:=Hb1.out.trans (hb2.mono Hb1.out.size)
 obtain ⟨FS,-,-,-,-,hT,hR⟩:=RepZ.turn H.out hb02 (row_base hown (B':=w.heap.size) (fun k hk => by have:=(hown.lt k hk).1;have:=Hb1.out.size;omega))
 have hq2:=(Mod.ofBelow hb02).keep Hq.out (by simp)
 have d0:=blk_cell hq2 2
 simp only [eA,eZ,eS] at d0
 have f0:=blk_free hq2 2
 have hql2:=blk_lt hq2
 obtain ⟨F3,hF3⟩ : ∃ F3,F3 = FS ++ v.ownBlock.toList:=⟨_,rfl⟩
 rw [← hF3] at hT hR
 subst hv2
 obtain ⟨w3,hw3⟩ : ∃ w3,w2.setCell ⟨q,2,none⟩ (Value.slice A2 L.length cap2) = w3:=⟨_,rfl⟩
 rw [hw3] at hT hR
 obtain ⟨vg3,vl3,g3,cap3,hq3,hgF3,hqg3,hgl3,hcell3,hfz3,hset3⟩:=hR.at_ hil
 rw [Hx.out] at hcell3 hset3
 have e0:=blk_cell hq3 2
 simp only [eA,eZ,eS] at e0
 have hql3:=blk_lt hq3
 have e2:=hcell3 2 _ Hkc.out
 clear c0 hql
 obtain ⟨Hown,Hb2,Hb02,HT,HR,Hcell3,Hset3,Hfz3,Hq3⟩:=hid9 hown hb2 hb02 hT hR hcell3 hset3 hfz3 hq3
 clear hown hb2 hb02 hT hR hcell3 hset3 hfz3 hq3
 clear hq2 hF3
 go_wp2_with fail
 clear d0 f0 hql2 hw3
 have HW:=Lib.hid (show ∀ y,Turns w F F3 y → ∀ u o,Turns w F F3 (y.setCell ⟨g3,o,none⟩ u) from fun y hy u o => hy.trans ⟨(Mod.refl _ _).setCell (.inl hgF3) _,fun k hk => .inl hk⟩)
 have H6:=Lib.hid (powK_any j hj)
 have hwr:=wrapM ((m : Int) - pw j) (by have:=Hpw.out;omega) (by have:=Hpw.out;omega)
 have f2:=Hfz3.out (i * 11 + 2)
 obtain ⟨x1,hx1⟩ : ∃ x1 : Rw,x1 = (x.1,(x.2.1 - pw j,x.2.2)):=⟨_,rfl⟩
 have hs5:=Hset3.out 2 (.int .i64 ((m : Int) - pw j)) x1 (by omega) (by rw [hx1,HK.out];exact rw_kinds x _)
 have hb3 : Below w3.heap.size w3 w3.drew:=below_drew
 have hs5:=hs5
 obtain ⟨w5,hw5⟩ : ∃ w5,(w3.setCell ⟨g3,i * 11 + 2,none⟩ (.int .i64 ((m : Int) - pw j))).drew = w5:=⟨_,rfl⟩
 have hb5 : Below (w3.setCell ⟨g3,i * 11 + 2,none⟩ (.int .i64 ((m : Int) - pw j))).heap.size (w3.setCell ⟨g3,i * 11 + 2,none⟩ (.int .i64 ((m : Int) - pw j))) w5:=by rw [← hw5];exact below_drew
 have hR5:=hs5.below hb5
 have hT5:=(HW.out _ HT.out (.int .i64 ((m : Int) - pw j)) (i * 11 + 2)).below hb5
 have hil5 : i < (L.set i x1).length:=by rw [List.length_set];exact hil
 obtain ⟨vg5,vl5,g5,cap5,hq5,hgF5,hqg5,hgl5,hcell5,hfz5,hset5⟩:=hR5.at_ hil5
 rw [List.getElem_set_self] at hcell5 hset5
 rw [List.length_set] at hq5
 obtain ⟨Hb5,HR5,HT5,Hcell5,Hset5,Hfz5,Hq5,Hx1,Hw5,HgF5⟩:=hid10 hb5 hR5 hT5 hcell5 hset5 hfz5 hq5 hx1 hw5 hgF5
 clear hb5 hR5 hT5 hcell5 hset5 hfz5 hq5 hx1 hw5 hgF5
 clear hs5 hb3
 go_wp2_with fail
 refine wp_planR 15 [0,4,9] [some 35,some 36,some 37,some 38,some 39,some 40,some 41,some 42,some 43,some 44,some 45,some 46,some 47,some 48,some 49,none] [[],[0],[0,1],[0,1,2],[],[0,1,2,3,4],[0,1,2,3,4,5],[0,1,2,3,4,5,6],[0,1,2,3,4,5,6,7],[],[9],[0,1,2,3,4,5,6,7,8,9,10],[0,1,2,3,4,5,6,7,8,9,10,11],[0,1,2,3,4,5,6,7,8,9,10,11,12],[0,1,2,3,4,5,6,7,8,9,10,11,12,13],[0,1,2,3,4,5,6,7,8,9,10,11,12,13,14]] [0,1,2,3,4,5,6,7,8,9,10,11,12,13,14] mixed rfl (by kernel_rfl) (by decide) (by decide) rfl ?_
 iterate 15 apply Exists.intro
 refine ⟨rfl,?_,?_⟩
 ·simp only [tS,List.take_zero,AllFrom.cons_eq,AllFrom.nil_eq,OpGoalQ]
  refine ⟨?_,?_,?_,?_,?_,?_,?_,?_,?_,?_,?_,?_,?_,?_,?_,trivial⟩
  all_goals (intro σ hp;(try simp only [gZ,gS,mC,mN,preF_cons,preF_nil,isV,and_true] at hp);(first | (have hq : True:=hp;clear hq hp) | skip))
  iterate 10 · (go_simp;exact ⟨rfl,rfl⟩)
  ·(go_simp;refine (H6.out _).mono ?_;rintro e w4 ⟨rfl,rfl⟩;exact ⟨_,rfl,rfl,rfl⟩)
  iterate 4 · (go_simp;exact ⟨rfl,rfl⟩)
 intro σ hp
 simp only [gZ,gS,mC,mN,preF_cons,preF_nil,isV,and_true] at hp
 simp only [dS,List.drop_zero]
 go_simp
 clear hp
 go_wp2_with fail
 refine ⟨rfl,?_⟩
 rw [Hw5.out]
 clear e0 e2 hql3 f2 hwr hqg3 hgl3
 have e0:=blk_cell Hq5.out 2
 simp only [eA,eZ,eS] at e0
 have hql3:=blk_lt Hq5.out
 have e3:=Hcell5.out (3 + j) _ (valK_lt j hj x1)
 rw [show i * 11 + (3 + j) = i * 11 + 2 + 1 + j by omega] at e3
 have f3:=Hfz5.out (i * 11 + 2 + 1 + j)
 have hs6:=Hset5.out (3 + j) (.int .i64 0) (rwSet x1 j 0) (by omega) (rwSet_cells x1 j hj 0)
 rw [show i * 11 + (3 + j) = i * 11 + 2 + 1 + j by omega,set_twice] at hs6
 have HS:=Lib.hid hs6
 have HT6:=Lib.hid (HT5.out.trans (⟨(Mod.refl _ _).setCell (p:=⟨g5,i * 11 + 2 + 1 + j,none⟩) (.inl HgF5.out) (.int .i64 0),fun k hk => .inl hk⟩ : Turns w5 F3 F3 _))
 clear hs6
 go_wp2
 go_ret
 exact ⟨rfl,F3,by have h7:=HS.out;rw [Hx1.out] at h7;exact h7,HT6.out⟩
theorem zput_any (h : RepZ vB w q sl L F) (hO : WOk sl L) (s g k n : Int) :
  Calls Tryz.prog 49 #[.pointer (some ⟨q,0,none⟩),.agg #[.int .i64 s,.int .i64 g],.int .i64 k,.int .i64 n] w (ZRet vB q sl (putW L (s,g) k n) F w (.int .i64 (putE L (s,g) k n))):=by
 rcases hO.idx s g with ⟨-,i,hi⟩ | ⟨-,hi⟩
 ·obtain ⟨hil,-⟩:=idx_some hi
  rw [putE_some hi,putW_some hi]
  by_cases hp : putBad k n
  ·rw [if_pos hp,if_pos hp];exact zput_bad h hO s g k n hi hp
  ·rw [if_neg hp,if_neg hp]
   obtain ⟨j,rfl⟩:=Int.eq_ofNat_of_zero_le (show 0 ≤ k by unfold putBad at hp;omega)
   have hj : j < 8:=by unfold putBad at hp;omega
   rw [Int.toNat_natCast,modify_set hil]
   cases hh : hasK L[i].2.1 j with
   | true => rw [putR_has hh];exact zput_has h hO s g n j hj hi hil hh hp
   | false => rw [putR_not hh];exact zput_new h hO s g n j hj hi hil hh hp
 ·rw [putE_none hi,putW_none hi];exact zput_dead h hO s g k n hi
theorem zdrop_any (h : RepZ vB w q sl L F) (hO : WOk sl L) (s g k : Int) :
  Calls Tryz.prog 50 #[.pointer (some ⟨q,0,none⟩),.agg #[.int .i64 s,.int .i64 g],.int .i64 k] w (ZRet vB q sl (dropL L (s,g) k) F w (.int .i64 (dropE L (s,g) k))):=by
 rcases hO.idx s g with ⟨-,i,hi⟩ | ⟨-,hi⟩
 ·obtain ⟨hil,-⟩:=idx_some hi
  rw [dropL_some hi,dropE_some hi hil]
  by_cases hp : k < 0 ∨ 7 < k
  ·rw [if_pos hp,if_neg (by decide)];exact zdrop_bad h hO s g k hi hp
  ·rw [if_neg hp]
   obtain ⟨j,rfl⟩:=Int.eq_ofNat_of_zero_le (show 0 ≤ k by omega)
   have hj : j < 8:=by omega
   rw [Int.toNat_natCast,modify_set hil]
   cases hh : hasK L[i].2.1 j with
   | true => rw [if_pos rfl,if_pos rfl,dropR_eq];exact zdrop_has h hO s g j hj hi hil hh
   | false => rw [if_neg (by simp),if_neg (by decide)];exact zdrop_not h hO s g j hj hi hil hh
 ·rw [dropE_none hi,dropL_none hi];exact zdrop_dead h hO s g k hi
end
end Go.Proofs.YtehjfmjibiafdaaGreat
namespace Go.Proofs.YtehjfmjibiafdaaGreat
open Go Go.RowKit
def putStep (h : Hd) (was now : Bt) (L : List Rw) (k : Int) : List Rw:=if valK k.toNat now ≠ valK k.toNat was then putW L h k (valK k.toNat now) else L
def putsL (h : Hd) (was now : Bt) (L : List Rw) (ks : List Int) : List Rw:=ks.foldl (putStep h was now) L
def rowP (s : Sy) (M : List Rw) (r : Rw) : List Rw:=putsL r.1 r.2 (stepBt s r.2) M (kindsN (low8 (stepBt s r.2).1))
def stepRow (s : Sy) (r : Rw) : Rw:=(r.1,stepBt s r.2)
theorem rw_ext {x y : Rw} (h1 : x.1 = y.1) (h2 : x.2.1 = y.2.1) (h3 : ∀ k,k < 8 → valK k x.2 = valK k y.2) : x = y:=by
 obtain ⟨hx,K,a0,a1,a2,a3,a4,a5,a6,a7⟩:=x
 obtain ⟨hy,K',b0,b1,b2,b3,b4,b5,b6,b7⟩:=y
 simp only at h1 h2
 subst h1 h2
 have e0 : a0 = b0:=h3 0 (by omega)
 have e1 : a1 = b1:=h3 1 (by omega)
 have e2 : a2 = b2:=h3 2 (by omega)
 have e3 : a3 = b3:=h3 3 (by omega)
 have e4 : a4 = b4:=h3 4 (by omega)
 have e5 : a5 = b5:=h3 5 (by omega)
 have e6 : a6 = b6:=h3 6 (by omega)
 have e7 : a7 = b7:=h3 7 (by omega)
 subst e0 e1 e2 e3 e4 e5 e6 e7
 rfl
def AtI (M : List Rw) (h : Hd) (i : Nat) : Prop:=∀ j x,M[j]? = some x → (x.1 = h ↔ j = i)
theorem AtI.idx {M : List Rw} {h : Hd} {i : Nat} (H : AtI M h i) (hi : i < M.length) : idxL M h = some i:=by
 refine fi_some hi (by simpa using (H i M[i] (List.getElem?_eq_getElem hi)).2 rfl) (fun j hj => ?_)
 have:=(H j (M[j]'(by omega)) (List.getElem?_eq_getElem (by omega))).1
 simp only [decide_eq_false_iff_not]
 intro e
 have:=this e
 omega
theorem AtI.set {M : List Rw} {h : Hd} {i : Nat} (H : AtI M h i) {y : Rw} (hy : y.1 = h) : AtI (M.set i y) h i:=by
 intro j x hx
 rw [List.getElem?_set] at hx
 by_cases e : i = j
 ·subst e
  rw [if_pos rfl] at hx
  split at hx
  ·cases hx;exact ⟨fun _ => rfl,fun _ => hy⟩
  ·cases hx
 ·rw [if_neg e] at hx
  exact H j x hx
def mixR (was now : Bt) (x : Rw) (k : Int) : Rw:=if valK k.toNat now ≠ valK k.toNat was then rwSet x k.toNat (valK k.toNat now) else x
theorem mixR_hd (was now : Bt) (x : Rw) (k : Int) : (mixR was now x k).1 = x.1:=by unfold mixR;split <;> rfl
theorem mixR_kn (was now : Bt) (x : Rw) (k : Int) : (mixR was now x k).2.1 = x.2.1:=by unfold mixR;split <;> rfl
theorem puts_set {was now : Bt} {kn : Nat} (hkn : kn < 256) (hnow : ∀ k,k < 8 → ¬ (valK k now < -1000000000 ∨ 1000000000 < valK k now)) (h : Hd) (i : Nat) : ∀ (ks : List Int) (M : List Rw) (x : Rw),(∀ k ∈ ks,0 ≤ k ∧ k < 8 ∧ kn.testBit k.toNat = true) → i < M.length → M[i]? = some x → x.1 = h → x.2.1 = (kn : Int) → AtI M h i →
  putsL h was now M ks = M.set i (ks.foldl (mixR was now) x)
 | [],M,x,_,hi,hx,_,_,_ => by
  have : M[i] = x:=by rw [List.getElem?_eq_getElem hi] at hx;exact Option.some.inj hx
  show M = M.set i x
  rw [← this,List.set_getElem_self]
 | k :: ks,M,x,hks,hi,hx,hxh,hxk,hA => by
  obtain ⟨hk0,hk8,hbit⟩:=hks k (by simp)
  have hget : M[i] = x:=by rw [List.getElem?_eq_getElem hi] at hx;exact Option.some.inj hx
  have hone : putStep h was now M k = M.set i (mixR was now x k):=by
   unfold putStep mixR
   by_cases e : valK k.toNat now ≠ valK k.toNat was
   ·rw [if_pos e,if_pos e]
    unfold putW
    rw [hA.idx hi]
    simp only
    rw [if_neg (by unfold putBad;have:=hnow k.toNat (by omega);omega),modify_set hi,hget,putR_has (by rw [hxk,hasK_nat kn k.toNat hkn];exact hbit)]
   ·rw [if_neg e,if_neg e,← hget,List.set_getElem_self]
  show putsL h was now (putStep h was now M k) ks = _
  rw [hone,puts_set hkn hnow h i ks (M.set i (mixR was now x k)) (mixR was now x k) (fun y hy => hks y (by simp [hy])) (by rw [List.length_set];exact hi) (by rw [List.getElem?_set,if_pos rfl,if_pos hi]) (by rw [mixR_hd];exact hxh) (by rw [mixR_kn];exact hxk) (hA.set (by rw [mixR_hd];exact hxh)),List.set_set]
  rfl
theorem mix_val {was now : Bt} : ∀ (ks : List Int) (x : Rw),(∀ k ∈ ks,0 ≤ k ∧ k < 8) → ∀ j,j < 8 → (valK j x.2 = valK j was ∨ valK j x.2 = valK j now) → valK j (ks.foldl (mixR was now) x).2 = if (j : Int) ∈ ks then valK j now else valK j x.2
 | [],x,_,j,_,_ => by simp
 | k :: ks,x,hks,j,hj,hx => by
  obtain ⟨hk0,hk8⟩:=hks k (by simp)
  have hv : valK j (mixR was now x k).2 = if (j : Int) = k ∧ valK j now ≠ valK j was then valK j now else valK j x.2:=by
   unfold mixR
   by_cases e : valK k.toNat now ≠ valK k.toNat was
   ·rw [if_pos e,rwSet_val _ _ _ (by omega)]
    by_cases ej : j = k.toNat
    ·subst ej
     rw [if_pos rfl,if_pos ⟨by omega,e⟩]
    ·rw [if_neg ej,if_neg (by intro h;omega)]
   ·rw [if_neg e]
    by_cases ej : (j : Int) = k
    ·have : k.toNat = j:=by omega
     rw [this] at e
     rw [if_neg (fun h => e h.2)]
    ·rw [if_neg (fun h => ej h.1)]
  have hx2 : valK j (mixR was now x k).2 = valK j was ∨ valK j (mixR was now x k).2 = valK j now:=by
   rw [hv];split
   ·exact .inr rfl
   ·exact hx
  show valK j (ks.foldl (mixR was now) (mixR was now x k)).2 = _
  rw [mix_val ks _ (fun y hy => hks y (by simp [hy])) j hj hx2,hv]
  by_cases h1 : (j : Int) ∈ ks
  ·rw [if_pos h1,if_pos (by simp [h1])]
  ·rw [if_neg h1]
   by_cases h2 : (j : Int) = k
   ·rw [if_pos (by simp [h2] : (j : Int) ∈ k :: ks)]
    by_cases h3 : valK j now ≠ valK j was
    ·rw [if_pos ⟨h2,h3⟩]
    ·rw [if_neg (fun h => h3 h.2)]
     have h3:=Classical.not_not.1 h3
     rcases hx with h | h
     ·rw [h,h3]
     ·exact h
   ·rw [if_neg (fun h => h2 h.1),if_neg (by simp [h1,h2])]
theorem mem_kindsN {kn : Nat} {k : Int} : k ∈ kindsN kn ↔ 0 ≤ k ∧ k < 8 ∧ kn.testBit k.toNat = true:=by
 unfold kindsN kindsTo
 rw [List.mem_map]
 constructor
 ·rintro ⟨j,hj,rfl⟩
  rw [List.mem_filter,List.mem_range] at hj
  exact ⟨by omega,by omega,by simpa using hj.2⟩
 ·rintro ⟨h1,h2,h3⟩
  exact ⟨k.toNat,by rw [List.mem_filter,List.mem_range];exact ⟨by omega,h3⟩,by omega⟩
theorem row_at {s : Sy} (hs : s.e = 0) {M : List Rw} {r : Rw} {i : Nat} (hr : beastZ r.2 = 0) (hi : i < M.length) (hx : M[i]? = some r) (hA : AtI M r.1 i) : rowP s M r = M.set i (stepRow s r):=by
 have hnow:=stepBt_ok hs hr
 obtain ⟨kn,hkn,hK,hv⟩:=(beastZ_iff _).1 hr
 have hK' : (stepBt s r.2).1 = (kn : Int):=by rw [stepBt_kinds];exact hK
 obtain ⟨kn',hkn',hK2,hv'⟩:=(beastZ_iff _).1 hnow
 have : kn' = kn:=by omega
 subst this
 unfold rowP
 rw [hK',low8_nat kn' hkn]
 rw [puts_set hkn (fun k hk => (hv' k hk).2) r.1 i (kindsN kn') M r (fun k hk => mem_kindsN.1 hk) hi hx rfl hK hA]
 congr 1
 have hall : ∀ k ∈ kindsN kn',0 ≤ k ∧ k < 8:=fun k hk => ⟨(mem_kindsN.1 hk).1,(mem_kindsN.1 hk).2.1⟩
 have hfh : ∀ (ks : List Int) (x : Rw),(ks.foldl (mixR r.2 (stepBt s r.2)) x).1 = x.1 ∧ (ks.foldl (mixR r.2 (stepBt s r.2)) x).2.1 = x.2.1:=by
  intro ks
  induction ks with
  | nil => exact fun x => ⟨rfl,rfl⟩
  | cons k ks ih => exact fun x => ⟨(ih _).1.trans (mixR_hd _ _ _ _),(ih _).2.trans (mixR_kn _ _ _ _)⟩
 refine rw_ext (hfh _ _).1 ((hfh _ _).2.trans (hK.trans hK'.symm)) (fun k hk => ?_)
 rw [mix_val _ _ hall k hk (.inl rfl)]
 split
 ·rfl
 ·next hn =>
  have hb : kn'.testBit k = false:=by
   cases hb : kn'.testBit k with
   | false => rfl
   | true => exact absurd (mem_kindsN.2 ⟨by omega,by omega,by simpa using hb⟩) hn
  rw [(hv k hk).1 hb]
  exact ((hv' k hk).1 hb).symm
theorem row_next {sl : Sl} {L : List Rw} {s : Sy} (hL : WOk sl L) (hs : s.e = 0) (k : Nat) (hk : k < L.length) :
  rowP s ((L.take k).map (stepRow s) ++ L.drop k) L[k] = (L.take (k + 1)).map (stepRow s) ++ L.drop (k + 1):=by
 have hl : ((L.take k).map (stepRow s)).length = k:=by rw [List.length_map,List.length_take];omega
 have hd:=List.drop_eq_getElem_cons hk
 have hget : ((L.take k).map (stepRow s) ++ L.drop k)[k]? = some L[k]:=by
  rw [List.getElem?_append_right (by omega),hl,Nat.sub_self,hd];rfl
 have hfst : ∀ j x,((L.take k).map (stepRow s) ++ L.drop k)[j]? = some x → ∃ hj : j < L.length,x.1 = L[j].1:=by
  intro j x hx
  by_cases hjk : j < k
  ·rw [List.getElem?_append_left (by omega),List.getElem?_map,List.getElem?_take,if_pos hjk,List.getElem?_eq_getElem (by omega)] at hx
   simp at hx
   exact ⟨by omega,by rw [← hx];rfl⟩
  ·rw [List.getElem?_append_right (by omega),hl,List.getElem?_drop,show k + (j - k) = j by omega] at hx
   obtain ⟨hj,e⟩:=List.getElem?_eq_some_iff.1 hx
   exact ⟨hj,by rw [e]⟩
 have hA : AtI ((L.take k).map (stepRow s) ++ L.drop k) L[k].1 k:=by
  intro j x hx
  obtain ⟨hj,e⟩:=hfst j x hx
  constructor
  ·intro h
   rcases Nat.lt_trichotomy j k with h2 | h2 | h2
   ·have:=List.pairwise_iff_getElem.1 hL.sorted j k hj hk h2
    rw [e] at h;rw [h] at this;omega
   ·exact h2
   ·have:=List.pairwise_iff_getElem.1 hL.sorted k j hk hj h2
    rw [e] at h;rw [h] at this;omega
  ·rintro rfl;exact e
 rw [row_at hs (hL.be _ (List.getElem_mem hk)) (by rw [List.length_append,List.length_drop];omega) hget hA,List.set_append_right _ _ (by omega),hl,Nat.sub_self,hd,List.set_cons_zero,take_succ_get L k hk,List.map_append,List.append_assoc]
 rfl
theorem WOk.step {sl : Sl} {L : List Rw} {s : Sy} (hL : WOk sl L) (hs : s.e = 0) : WOk sl (L.map (stepRow s)) :=
 ⟨hL.ok,by rw [List.map_map];exact hL.hs,fun r hr => by
  obtain ⟨x,hx,rfl⟩:=List.mem_map.1 hr
  exact stepBt_ok hs (hL.be x hx)⟩
def serL (l : List Sy) (L : List Rw) : List Rw:=l.foldl (fun L s => L.map (stepRow s)) L
theorem serL_ok {sl : Sl} : ∀ {l : List Sy} {L : List Rw},(∀ s ∈ l,s.e = 0) → WOk sl L → WOk sl (serL l L)
 | [],_,_,h => h
 | s :: l,L,hs,h => serL_ok (l:=l) (fun y hy => hs y (by simp [hy])) (h.step (hs s (by simp)))
theorem serL_snoc (l : List Sy) (s : Sy) (L : List Rw) : serL (l ++ [s]) L = (serL l L).map (stepRow s):=by unfold serL;rw [List.foldl_append];rfl
theorem firstE_all : ∀ {l : List Sy},firstE l = 0 → ∀ s ∈ l,s.e = 0
 | p :: l,h,s,hs => by
  unfold firstE at h
  by_cases hp : p.e ≠ 0
  ·rw [if_pos hp] at h;exact absurd h hp
  ·rw [if_neg hp] at h
   rcases List.mem_cons.1 hs with rfl | hs
   ·exact Classical.not_not.1 hp
   ·exact firstE_all h s hs
theorem planE_all {l : List Sy} (h : planE l = 0) : l.length ≤ 20 ∧ ∀ s ∈ l,s.e = 0:=by
 unfold planE at h
 split at h
 ·cases h
 ·exact ⟨by omega,firstE_all h⟩
end Go.Proofs.YtehjfmjibiafdaaGreat
