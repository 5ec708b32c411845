import Derived.Test.YtfdillpofciicaaGreatDoorTopSavedJ36
set_option linter.unusedVariables false
set_option linter.unusedSimpArgs false
/- A part of the proof that TopSaved returns true. -/
namespace Go.Proofs.YtfdillpofciicaaGreatDoor
open Go Go.RowKit
attribute [local go_sem] AllFrom.cons_eq AllFrom.nil_eq putF_nil putF_cons wantedL_none wantedL_some OpGoalQ YieldsR preF_nil preF_cons
set_option maxRecDepth 20000 in
set_option maxHeartbeats 2000000 in
theorem rowsCmp_any (x y : Rw) (W : World) : Calls Tryz.prog 18 #[.agg (rwC x).toArray,.agg (rwC y).toArray] W (CmpPost (cmpH x.1 y.1) W):=by
 obtain ⟨⟨s,g⟩,K1,a0,a1,a2,a3,a4,a5,a6,a7⟩:=x
 obtain ⟨⟨t,u⟩,K2,c0,c1,c2,c3,c4,c5,c6,c7⟩:=y
 show Calls Tryz.prog 18 #[.agg #[.int .i64 s,.int .i64 g,.int .i64 K1,.int .i64 a0,.int .i64 a1,.int .i64 a2,.int .i64 a3,.int .i64 a4,.int .i64 a5,.int .i64 a6,.int .i64 a7],.agg #[.int .i64 t,.int .i64 u,.int .i64 K2,.int .i64 c0,.int .i64 c1,.int .i64 c2,.int .i64 c3,.int .i64 c4,.int .i64 c5,.int .i64 c6,.int .i64 c7]] W (CmpPost (cmpH (s,g) (t,u)) W)
 have HC:=Lib.hid (cmpHd_any s g t u)
 go_enter Tryz.func18,Tryz.ntmps18
 go_wp2_with fail
 refine (HC.out _).mono ?_
 rintro e w' ⟨rfl,hG⟩
 have HG:=Lib.hid ((((Grown.refl W).alloc _).alloc _).trans hG)
 clear hG
 go_wp2
 go_ret
 exact ⟨rfl,HG.out⟩
set_option maxRecDepth 20000 in
set_option maxHeartbeats 2000000 in
theorem ordRows_any {w : World} {A : Option Addr} {c : Nat} {l : List Rw} (hl : l.length ≤ 4611686018427387904) (hA : Lies w w.heap.size A (l.flatMap rwC)) :
  Calls Tryz.prog 17 #[.slice A l.length c,.func (.func 18) #[] #[]] w fun e w' => e = .returned (.bool (ordB (l.map (·.1)))) ∧ Below w.heap.size w w':=by
 have HA:=Lib.hid hA
 clear hA
 go_enter Tryz.func17,Tryz.ntmps17
 go_wp2
 go_loopw [5] (fun i wr => ∃ k : Nat,(k + 1 ≤ l.length ∨ k = 0) ∧ i = .int .i64 ((k + 1 : Nat) : Int) ∧ (∀ j,j < k → ∀ (h : j + 1 < l.length),ltH l[j].1 l[j + 1].1 = true) ∧ Below w.heap.size w wr) (fun i _ => l.length - (Go.RowKit.intOf i).toNat)
 case atStart => exact ⟨0,.inr rfl,rfl,by omega,Below.refl _ _⟩
 case round =>
  obtain ⟨k,hk,rfl,hord,hB⟩:=hrel
  have hsz:=hB.size
  by_cases hlt : k + 1 < l.length
  ·obtain ⟨ab,ao,rfl,hal,hc⟩:=(HA.out.below hB).rec_at rwC_len (by omega) (show k < l.length by omega)
   obtain ⟨bb,bo,e2,hbl,hc'⟩:=(HA.out.below hB).rec_at rwC_len (by omega) hlt
   obtain ⟨rfl,rfl⟩ : ab = bb ∧ ao = bo:=by
    have:=Option.some.inj e2
    simp only [Addr.mk.injEq] at this
    exact ⟨this.1,this.2.1⟩
   clear e2 hbl
   have hc1 : ∀ j u,(rwC l[k])[j]? = some u → wr.drew.cell? ((⟨ab,ao + k * 11,none⟩ : Addr).add j) = some u:=fun j u hu => by
    have:=hc j u hu
    rw [Addr.add_mid];exact this
   have hc2 : ∀ j u,(rwC l[k + 1])[j]? = some u → wr.drew.cell? ((⟨ab,ao + (k + 1) * 11,none⟩ : Addr).add j) = some u:=fun j u hu => by
    have:=hc' j u hu
    rw [Addr.add_mid];exact this
   have hno : ltH l[k].1 l[k + 1].1 = false → ordB (l.map (·.1)) = false:=fun h => ordB_not (i:=k) (by rw [List.length_map];exact hlt) (by rw [List.getElem_map,List.getElem_map];exact h)
   have hyes : ltH l[k].1 l[k + 1].1 = true → ∀ j,j < k + 1 → ∀ (h : j + 1 < l.length),ltH l[j].1 l[j + 1].1 = true:=fun h j hj hj2 => by
    by_cases e : j = k
    ·subst e;exact h
    ·exact hord j (by omega) hj2
   generalize l[k] = x at *
   generalize l[k + 1] = y at *
   have HC:=Lib.hid (fun V => rowsCmp_any x y V)
   have hwr : IntKind.i64.wrap (k : Int) = (k : Int):=by simp [IntKind.wrap,IntKind.bits,IntKind.signed];omega
   have hki : (k : Int) < (l.length : Int):=by omega
   have hki2 : (k : Int) + 1 < (l.length : Int):=by omega
   obtain ⟨Hc1,Hc2,Hno,Hyes,HB⟩:=hid5 hc1 hc2 hno hyes hB
   clear hc1 hc2 hno hyes hB
   clear hc hc' hord HA
   go_wp2_with fail
   refine wp_planR 10 [0,1,2,6,7] [some 12,some 13,some 14,some 15,some 16,some 17,some 18,some 19,some 20,some 21,some 22,some 23] [[],[],[],[2],[1,2,3],[1,2,3,4],[],[],[6,7],[6,7,8],[0,1,2,3,4,5,6,7,8,9],[0,1,2,3,4,5,6,7,8,9,10]] [0,1,2,3,4,5,6,7,8,9] mixed rfl (by kernel_rfl) (by decide) (by decide) rfl ?_
   iterate 10 apply Exists.intro
   refine ⟨rfl,?_,?_⟩
   ·simp only [tS,List.take_zero,AllFrom.cons_eq,AllFrom.nil_eq,OpGoalQ]
    refine ⟨?_,?_,?_,?_,?_,?_,?_,?_,?_,?_,trivial⟩
    all_goals (intro σ hp;(try simp only [gZ,gS,mC,mN,preF_cons,preF_nil,isV,and_true] at hp);(first | (have hq : True:=hp;clear hq hp) | skip))
    iterate 5 · (go_simp;exact ⟨rfl,rfl⟩)
    ·(simp only [wantedL_none,↓reduceIte,gZ,gS];refine yr_load 56 (.tmp 16) (by rfl) ⟨ab,ao + k * 11,none⟩ ?_ (rwC x) _ Tryz.underlying56 rfl (sz_Row _) Hc1.out ?_;(· go_simp);(· exact ⟨rfl,rfl⟩))
    iterate 3 · (go_simp;exact ⟨rfl,rfl⟩)
    ·(simp only [wantedL_none,↓reduceIte,gZ,gS];refine yr_load 56 (.tmp 20) (by rfl) ⟨ab,ao + (k + 1) * 11,none⟩ ?_ (rwC y) _ Tryz.underlying56 rfl (sz_Row _) Hc2.out ?_;(· go_simp);(· exact ⟨rfl,rfl⟩))
   intro σ hp
   simp only [gZ,gS,mC,mN,preF_cons,preF_nil,isV,and_true] at hp
   simp only [dS,List.drop_zero]
   go_simp
   clear hp
   go_wp2_with fail
   refine (HC.out _).mono ?_
   rintro e w2 ⟨rfl,hG⟩
   obtain ⟨q,os,rfl⟩:=hG
   have hB2:=HB.out.drew.trans ((Lib.below_grow wr.drew.heap.size wr.drew (Nat.le_refl _) q os).mono hsz)
   generalize Sort.grow (wr.drew.drewN q) os = w2 at *
   have HB2:=Lib.hid hB2
   clear hB2
   cases hlt2 : ltH x.1 y.1 with
   | true =>
    have hneg:=(cmpH_lt x.1 y.1).2 hlt2
    have Hy:=Lib.hid (Hyes.out hlt2)
    have hge : ¬ (0 : Int) ≤ cmpH x.1 y.1:=by omega
    clear hlt2
    generalize cmpH x.1 y.1 = r at *
    go_wp2
    refine ⟨rfl,?_⟩
    go_wp2
    go_roundw
    case rel => exact ⟨k + 1,by omega,by go_num,Hy.out,HB2.out⟩
    case measure => simp [Go.RowKit.intOf];omega
   | false =>
    have hge : (0 : Int) ≤ cmpH x.1 y.1:=by
     rcases Int.lt_or_le (cmpH x.1 y.1) 0 with h | h
     ·rw [(cmpH_lt x.1 y.1).1 h] at hlt2;cases hlt2
     ·exact h
    have Hf:=Lib.hid (Hno.out hlt2)
    clear hlt2
    generalize cmpH x.1 y.1 = r at *
    go_wp2
    refine ⟨rfl,?_⟩
    go_wp2
    go_ret
    exact ⟨by rw [Hf.out];rfl,HB2.out⟩
  ·have Hf:=Lib.hid (show ordB (l.map (·.1)) = true from ordB_of fun i hi => by
    rw [List.length_map] at hi
    rw [List.getElem_map,List.getElem_map]
    exact hord i (by omega) hi)
   have HB:=Lib.hid hB
   clear hB
   clear hord
   go_wp2
   go_ret
   exact ⟨by rw [Hf.out];rfl,HB.out⟩
set_option maxRecDepth 20000 in
set_option maxHeartbeats 2000000 in
theorem bondsCmp_any (x y : Bd) (W : World) : Calls Tryz.prog 20 #[.agg (bdC x).toArray,.agg (bdC y).toArray] W (CmpPost (cmpH x.1 y.1) W):=by
 obtain ⟨⟨s,g⟩,⟨s1,g1⟩⟩:=x
 obtain ⟨⟨t,u⟩,⟨t1,u1⟩⟩:=y
 show Calls Tryz.prog 20 #[.agg #[.int .i64 s,.int .i64 g,.int .i64 s1,.int .i64 g1],.agg #[.int .i64 t,.int .i64 u,.int .i64 t1,.int .i64 u1]] W (CmpPost (cmpH (s,g) (t,u)) W)
 have HC:=Lib.hid (cmpHd_any s g t u)
 go_enter Tryz.func20,Tryz.ntmps20
 go_wp2_with fail
 refine (HC.out _).mono ?_
 rintro e w' ⟨rfl,hG⟩
 have HG:=Lib.hid ((((Grown.refl W).alloc _).alloc _).trans hG)
 clear hG
 go_wp2
 go_ret
 exact ⟨rfl,HG.out⟩
set_option maxRecDepth 20000 in
set_option maxHeartbeats 2000000 in
theorem ordBonds_any {w : World} {A : Option Addr} {c : Nat} {l : List Bd} (hl : l.length ≤ 4611686018427387904) (hA : Lies w w.heap.size A (l.flatMap bdC)) :
  Calls Tryz.prog 19 #[.slice A l.length c,.func (.func 20) #[] #[]] w fun e w' => e = .returned (.bool (ordB (l.map (·.1)))) ∧ Below w.heap.size w w':=by
 have HA:=Lib.hid hA
 clear hA
 go_enter Tryz.func19,Tryz.ntmps19
 go_wp2
 go_loopw [5] (fun i wr => ∃ k : Nat,(k + 1 ≤ l.length ∨ k = 0) ∧ i = .int .i64 ((k + 1 : Nat) : Int) ∧ (∀ j,j < k → ∀ (h : j + 1 < l.length),ltH l[j].1 l[j + 1].1 = true) ∧ Below w.heap.size w wr) (fun i _ => l.length - (Go.RowKit.intOf i).toNat)
 case atStart => exact ⟨0,.inr rfl,rfl,by omega,Below.refl _ _⟩
 case round =>
  obtain ⟨k,hk,rfl,hord,hB⟩:=hrel
  have hsz:=hB.size
  by_cases hlt : k + 1 < l.length
  ·obtain ⟨ab,ao,rfl,hal,hc⟩:=(HA.out.below hB).rec_at bdC_len (by omega) (show k < l.length by omega)
   obtain ⟨bb,bo,e2,hbl,hc'⟩:=(HA.out.below hB).rec_at bdC_len (by omega) hlt
   obtain ⟨rfl,rfl⟩ : ab = bb ∧ ao = bo:=by
    have:=Option.some.inj e2
    simp only [Addr.mk.injEq] at this
    exact ⟨this.1,this.2.1⟩
   clear e2 hbl
   have hc1 : ∀ j u,(bdC l[k])[j]? = some u → wr.drew.cell? ((⟨ab,ao + k * 4,none⟩ : Addr).add j) = some u:=fun j u hu => by
    have:=hc j u hu
    rw [Addr.add_mid];exact this
   have hc2 : ∀ j u,(bdC l[k + 1])[j]? = some u → wr.drew.cell? ((⟨ab,ao + (k + 1) * 4,none⟩ : Addr).add j) = some u:=fun j u hu => by
    have:=hc' j u hu
    rw [Addr.add_mid];exact this
   have hno : ltH l[k].1 l[k + 1].1 = false → ordB (l.map (·.1)) = false:=fun h => ordB_not (i:=k) (by rw [List.length_map];exact hlt) (by rw [List.getElem_map,List.getElem_map];exact h)
   have hyes : ltH l[k].1 l[k + 1].1 = true → ∀ j,j < k + 1 → ∀ (h : j + 1 < l.length),ltH l[j].1 l[j + 1].1 = true:=fun h j hj hj2 => by
    by_cases e : j = k
    ·subst e;exact h
    ·exact hord j (by omega) hj2
   generalize l[k] = x at *
   generalize l[k + 1] = y at *
   have HC:=Lib.hid (fun V => bondsCmp_any x y V)
   have hwr : IntKind.i64.wrap (k : Int) = (k : Int):=by simp [IntKind.wrap,IntKind.bits,IntKind.signed];omega
   have hki : (k : Int) < (l.length : Int):=by omega
   have hki2 : (k : Int) + 1 < (l.length : Int):=by omega
   obtain ⟨Hc1,Hc2,Hno,Hyes,HB⟩:=hid5 hc1 hc2 hno hyes hB
   clear hc1 hc2 hno hyes hB
   clear hc hc' hord HA
   go_wp2_with fail
   refine wp_planR 10 [0,1,2,6,7] [some 12,some 13,some 14,some 15,some 16,some 17,some 18,some 19,some 20,some 21,some 22,some 23] [[],[],[],[2],[1,2,3],[1,2,3,4],[],[],[6,7],[6,7,8],[0,1,2,3,4,5,6,7,8,9],[0,1,2,3,4,5,6,7,8,9,10]] [0,1,2,3,4,5,6,7,8,9] mixed rfl (by kernel_rfl) (by decide) (by decide) rfl ?_
   iterate 10 apply Exists.intro
   refine ⟨rfl,?_,?_⟩
   ·simp only [tS,List.take_zero,AllFrom.cons_eq,AllFrom.nil_eq,OpGoalQ]
    refine ⟨?_,?_,?_,?_,?_,?_,?_,?_,?_,?_,trivial⟩
    all_goals (intro σ hp;(try simp only [gZ,gS,mC,mN,preF_cons,preF_nil,isV,and_true] at hp);(first | (have hq : True:=hp;clear hq hp) | skip))
    iterate 5 · (go_simp;exact ⟨rfl,rfl⟩)
    ·(simp only [wantedL_none,↓reduceIte,gZ,gS];refine yr_load 60 (.tmp 16) (by rfl) ⟨ab,ao + k * 4,none⟩ ?_ (bdC x) _ Tryz.underlying60 rfl (sz_Bond _) Hc1.out ?_;(· go_simp);(· exact ⟨rfl,rfl⟩))
    iterate 3 · (go_simp;exact ⟨rfl,rfl⟩)
    ·(simp only [wantedL_none,↓reduceIte,gZ,gS];refine yr_load 60 (.tmp 20) (by rfl) ⟨ab,ao + (k + 1) * 4,none⟩ ?_ (bdC y) _ Tryz.underlying60 rfl (sz_Bond _) Hc2.out ?_;(· go_simp);(· exact ⟨rfl,rfl⟩))
   intro σ hp
   simp only [gZ,gS,mC,mN,preF_cons,preF_nil,isV,and_true] at hp
   simp only [dS,List.drop_zero]
   go_simp
   clear hp
   go_wp2_with fail
   refine (HC.out _).mono ?_
   rintro e w2 ⟨rfl,hG⟩
   obtain ⟨q,os,rfl⟩:=hG
   have hB2:=HB.out.drew.trans ((Lib.below_grow wr.drew.heap.size wr.drew (Nat.le_refl _) q os).mono hsz)
   generalize Sort.grow (wr.drew.drewN q) os = w2 at *
   have HB2:=Lib.hid hB2
   clear hB2
   cases hlt2 : ltH x.1 y.1 with
   | true =>
    have hneg:=(cmpH_lt x.1 y.1).2 hlt2
    have Hy:=Lib.hid (Hyes.out hlt2)
    have hge : ¬ (0 : Int) ≤ cmpH x.1 y.1:=by omega
    clear hlt2
    generalize cmpH x.1 y.1 = r at *
    go_wp2
    refine ⟨rfl,?_⟩
    go_wp2
    go_roundw
    case rel => exact ⟨k + 1,by omega,by go_num,Hy.out,HB2.out⟩
    case measure => simp [Go.RowKit.intOf];omega
   | false =>
    have hge : (0 : Int) ≤ cmpH x.1 y.1:=by
     rcases Int.lt_or_le (cmpH x.1 y.1) 0 with h | h
     ·rw [(cmpH_lt x.1 y.1).1 h] at hlt2;cases hlt2
     ·exact h
    have Hf:=Lib.hid (Hno.out hlt2)
    clear hlt2
    generalize cmpH x.1 y.1 = r at *
    go_wp2
    refine ⟨rfl,?_⟩
    go_wp2
    go_ret
    exact ⟨by rw [Hf.out];rfl,HB2.out⟩
  ·have Hf:=Lib.hid (show ordB (l.map (·.1)) = true from ordB_of fun i hi => by
    rw [List.length_map] at hi
    rw [List.getElem_map,List.getElem_map]
    exact hord i (by omega) hi)
   have HB:=Lib.hid hB
   clear hB
   clear hord
   go_wp2
   go_ret
   exact ⟨by rw [Hf.out];rfl,HB.out⟩
end Go.Proofs.YtfdillpofciicaaGreatDoor
