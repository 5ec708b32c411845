import Derived.Test.YtoheblfpjinmnaaGreatDoorTextParsesJ20
set_option linter.unusedVariables false
set_option linter.unusedSimpArgs false
/- A part of the proof that TextParses returns true. -/
namespace Go.Proofs.YtoheblfpjinmnaaGreatDoor
open Go Go.RowKit
attribute [local go_sem] AllFrom.cons_eq AllFrom.nil_eq putF_nil putF_cons wantedL_none wantedL_some OpGoalQ YieldsR preF_nil preF_cons
set_option maxRecDepth 20000 in
set_option maxHeartbeats 2000000 in
theorem rowsCmp_any (x y : Rw) (W : World) : Calls Tryz.prog 27 #[.agg (rwC x).toArray,.agg (rwC y).toArray] W (CmpPost (cmpH x.1 y.1) W):=by
 obtain ⟨⟨s,g⟩,K1,a0,a1,a2,a3,a4,a5,a6,a7⟩:=x
 obtain ⟨⟨t,u⟩,K2,c0,c1,c2,c3,c4,c5,c6,c7⟩:=y
 show Calls Tryz.prog 27 #[.agg #[.int .i64 s,.int .i64 g,.int .i64 K1,.int .i64 a0,.int .i64 a1,.int .i64 a2,.int .i64 a3,.int .i64 a4,.int .i64 a5,.int .i64 a6,.int .i64 a7],.agg #[.int .i64 t,.int .i64 u,.int .i64 K2,.int .i64 c0,.int .i64 c1,.int .i64 c2,.int .i64 c3,.int .i64 c4,.int .i64 c5,.int .i64 c6,.int .i64 c7]] W (CmpPost (cmpH (s,g) (t,u)) W)
 have HC:=Lib.hid (cmpHd_any s g t u)
 go_enter Tryz.func27,Tryz.ntmps27
 go_wp2_with fail
 refine (HC.out _).mono ?_
 rintro e w' ⟨rfl,hG⟩
 have HG:=Lib.hid ((((Grown.refl W).alloc _).alloc _).trans hG)
 clear hG
 go_wp2
 go_ret
 exact ⟨rfl,HG.out⟩
set_option maxRecDepth 20000 in
set_option maxHeartbeats 2000000 in
theorem ordRows_any {w : World} {A : Option Addr} {c : Nat} {l : List Rw} (hl : l.length ≤ 4611686018427387904) (hA : Lies w w.heap.size A (l.flatMap rwC)) :
  Calls Tryz.prog 26 #[.slice A l.length c,.func (.func 27) #[] #[]] w fun e w' => e = .returned (.bool (ordB (l.map (·.1)))) ∧ Below w.heap.size w w':=by
 have HA:=Lib.hid hA
 clear hA
 go_enter Tryz.func26,Tryz.ntmps26
 go_wp2
 go_loopw [5] (fun i wr => ∃ k : Nat,(k + 1 ≤ l.length ∨ k = 0) ∧ i = .int .i64 ((k + 1 : Nat) : Int) ∧ (∀ j,j < k → ∀ (h : j + 1 < l.length),ltH l[j].1 l[j + 1].1 = true) ∧ Below w.heap.size w wr) (fun i _ => l.length - (Go.RowKit.intOf i).toNat)
 case atStart => exact ⟨0,.inr rfl,rfl,by omega,Below.refl _ _⟩
 case round =>
  obtain ⟨k,hk,rfl,hord,hB⟩:=hrel
  have hsz:=hB.size
  by_cases hlt : k + 1 < l.length
  ·obtain ⟨ab,ao,rfl,hal,hc⟩:=(HA.out.below hB).rec_at rwC_len (by omega) (show k < l.length by omega)
   obtain ⟨bb,bo,e2,hbl,hc'⟩:=(HA.out.below hB).rec_at rwC_len (by omega) hlt
   obtain ⟨rfl,rfl⟩ : ab = bb ∧ ao = bo:=by
    have:=Option.some.inj e2
    simp only [Addr.mk.injEq] at this
    exact ⟨this.1,this.2.1⟩
   clear e2 hbl
   have hc1 : ∀ j u,(rwC l[k])[j]? = some u → wr.drew.cell? ((⟨ab,ao + k * 11,none⟩ : Addr).add j) = some u:=fun j u hu => by
    have:=hc j u hu
    rw [Addr.add_mid];exact this
   have hc2 : ∀ j u,(rwC l[k + 1])[j]? = some u → wr.drew.cell? ((⟨ab,ao + (k + 1) * 11,none⟩ : Addr).add j) = some u:=fun j u hu => by
    have:=hc' j u hu
    rw [Addr.add_mid];exact this
   have hno : ltH l[k].1 l[k + 1].1 = false → ordB (l.map (·.1)) = false:=fun h => ordB_not (i:=k) (by rw [List.length_map];exact hlt) (by rw [List.getElem_map,List.getElem_map];exact h)
   have hyes : ltH l[k].1 l[k + 1].1 = true → ∀ j,j < k + 1 → ∀ (h : j + 1 < l.length),ltH l[j].1 l[j + 1].1 = true:=fun h j hj hj2 => by
    by_cases e : j = k
    ·subst e;exact h
    ·exact hord j (by omega) hj2
   generalize l[k] = x at *
   generalize l[k + 1] = y at *
   have HC:=Lib.hid (fun V => rowsCmp_any x y V)
   have hwr : IntKind.i64.wrap (k : Int) = (k : Int):=by simp [IntKind.wrap,IntKind.bits,IntKind.signed];omega
   have hki : (k : Int) < (l.length : Int):=by omega
   have hki2 : (k : Int) + 1 < (l.length : Int):=by omega
   obtain ⟨Hc1,Hc2,Hno,Hyes,HB⟩:=hid5 hc1 hc2 hno hyes hB
   clear hc1 hc2 hno hyes hB
   clear hc hc' hord HA
   go_wp2_with fail
   refine wp_planR 10 [0,1,2,6,7] [some 12,some 13,some 14,some 15,some 16,some 17,some 18,some 19,some 20,some 21,some 22,some 23] [[],[],[],[2],[1,2,3],[1,2,3,4],[],[],[6,7],[6,7,8],[0,1,2,3,4,5,6,7,8,9],[0,1,2,3,4,5,6,7,8,9,10]] [0,1,2,3,4,5,6,7,8,9] mixed rfl (by kernel_rfl) (by decide) (by decide) rfl ?_
   iterate 10 apply Exists.intro
   refine ⟨rfl,?_,?_⟩
   ·simp only [tS,List.take_zero,AllFrom.cons_eq,AllFrom.nil_eq,OpGoalQ]
    refine ⟨?_,?_,?_,?_,?_,?_,?_,?_,?_,?_,trivial⟩
    all_goals (intro σ hp;(try simp only [gZ,gS,mC,mN,preF_cons,preF_nil,isV,and_true] at hp);(first | (have hq : True:=hp;clear hq hp) | skip))
    iterate 5 · (go_simp;exact ⟨rfl,rfl⟩)
    ·(simp only [wantedL_none,↓reduceIte,gZ,gS];refine yr_load 51 (.tmp 16) (by rfl) ⟨ab,ao + k * 11,none⟩ ?_ (rwC x) _ Tryz.underlying51 rfl (sz_Row _) Hc1.out ?_;(· go_simp);(· exact ⟨rfl,rfl⟩))
    iterate 3 · (go_simp;exact ⟨rfl,rfl⟩)
    ·(simp only [wantedL_none,↓reduceIte,gZ,gS];refine yr_load 51 (.tmp 20) (by rfl) ⟨ab,ao + (k + 1) * 11,none⟩ ?_ (rwC y) _ Tryz.underlying51 rfl (sz_Row _) Hc2.out ?_;(· go_simp);(· exact ⟨rfl,rfl⟩))
   intro σ hp
   simp only [gZ,gS,mC,mN,preF_cons,preF_nil,isV,and_true] at hp
   simp only [dS,List.drop_zero]
   go_simp
   clear hp
   go_wp2_with fail
   refine (HC.out _).mono ?_
   rintro e w2 ⟨rfl,hG⟩
   obtain ⟨q,os,rfl⟩:=hG
   have hB2:=HB.out.drew.trans ((Lib.below_grow wr.drew.heap.size wr.drew (Nat.le_refl _) q os).mono hsz)
   generalize Sort.grow (wr.drew.drewN q) os = w2 at *
   have HB2:=Lib.hid hB2
   clear hB2
   cases hlt2 : ltH x.1 y.1 with
   | true =>
    have hneg:=(cmpH_lt x.1 y.1).2 hlt2
    have Hy:=Lib.hid (Hyes.out hlt2)
    have hge : ¬ (0 : Int) ≤ cmpH x.1 y.1:=by omega
    clear hlt2
    generalize cmpH x.1 y.1 = r at *
    go_wp2
    refine ⟨rfl,?_⟩
    go_wp2
    go_roundw
    case rel => exact ⟨k + 1,by omega,by go_num,Hy.out,HB2.out⟩
    case measure => simp [Go.RowKit.intOf];omega
   | false =>
    have hge : (0 : Int) ≤ cmpH x.1 y.1:=by
     rcases Int.lt_or_le (cmpH x.1 y.1) 0 with h | h
     ·rw [(cmpH_lt x.1 y.1).1 h] at hlt2;cases hlt2
     ·exact h
    have Hf:=Lib.hid (Hno.out hlt2)
    clear hlt2
    generalize cmpH x.1 y.1 = r at *
    go_wp2
    refine ⟨rfl,?_⟩
    go_wp2
    go_ret
    exact ⟨by rw [Hf.out];rfl,HB2.out⟩
  ·have Hf:=Lib.hid (show ordB (l.map (·.1)) = true from ordB_of fun i hi => by
    rw [List.length_map] at hi
    rw [List.getElem_map,List.getElem_map]
    exact hord i (by omega) hi)
   have HB:=Lib.hid hB
   clear hB
   clear hord
   go_wp2
   go_ret
   exact ⟨by rw [Hf.out];rfl,HB.out⟩
set_option maxRecDepth 20000 in
set_option maxHeartbeats 2000000 in
theorem bondsCmp_any (x y : Bd) (W : World) : Calls Tryz.prog 29 #[.agg (bdC x).toArray,.agg (bdC y).toArray] W (CmpPost (cmpH x.1 y.1) W):=by
 obtain ⟨⟨s,g⟩,⟨s1,g1⟩⟩:=x
 obtain ⟨⟨t,u⟩,⟨t1,u1⟩⟩:=y
 show Calls Tryz.prog 29 #[.agg #[.int .i64 s,.int .i64 g,.int .i64 s1,.int .i64 g1],.agg #[.int .i64 t,.int .i64 u,.int .i64 t1,.int .i64 u1]] W (CmpPost (cmpH (s,g) (t,u)) W)
 have HC:=Lib.hid (cmpHd_any s g t u)
 go_enter Tryz.func29,Tryz.ntmps29
 go_wp2_with fail
 refine (HC.out _).mono ?_
 rintro e w' ⟨rfl,hG⟩
 have HG:=Lib.hid ((((Grown.refl W).alloc _).alloc _).trans hG)
 clear hG
 go_wp2
 go_ret
 exact ⟨rfl,HG.out⟩
set_option maxRecDepth 20000 in
set_option maxHeartbeats 2000000 in
theorem ordBonds_any {w : World} {A : Option Addr} {c : Nat} {l : List Bd} (hl : l.length ≤ 4611686018427387904) (hA : Lies w w.heap.size A (l.flatMap bdC)) :
  Calls Tryz.prog 28 #[.slice A l.length c,.func (.func 29) #[] #[]] w fun e w' => e = .returned (.bool (ordB (l.map (·.1)))) ∧ Below w.heap.size w w':=by
 have HA:=Lib.hid hA
 clear hA
 go_enter Tryz.func28,Tryz.ntmps28
 go_wp2
 go_loopw [5] (fun i wr => ∃ k : Nat,(k + 1 ≤ l.length ∨ k = 0) ∧ i = .int .i64 ((k + 1 : Nat) : Int) ∧ (∀ j,j < k → ∀ (h : j + 1 < l.length),ltH l[j].1 l[j + 1].1 = true) ∧ Below w.heap.size w wr) (fun i _ => l.length - (Go.RowKit.intOf i).toNat)
 case atStart => exact ⟨0,.inr rfl,rfl,by omega,Below.refl _ _⟩
 case round =>
  obtain ⟨k,hk,rfl,hord,hB⟩:=hrel
  have hsz:=hB.size
  by_cases hlt : k + 1 < l.length
  ·obtain ⟨ab,ao,rfl,hal,hc⟩:=(HA.out.below hB).rec_at bdC_len (by omega) (show k < l.length by omega)
   obtain ⟨bb,bo,e2,hbl,hc'⟩:=(HA.out.below hB).rec_at bdC_len (by omega) hlt
   obtain ⟨rfl,rfl⟩ : ab = bb ∧ ao = bo:=by
    have:=Option.some.inj e2
    simp only [Addr.mk.injEq] at this
    exact ⟨this.1,this.2.1⟩
   clear e2 hbl
   have hc1 : ∀ j u,(bdC l[k])[j]? = some u → wr.drew.cell? ((⟨ab,ao + k * 4,none⟩ : Addr).add j) = some u:=fun j u hu => by
    have:=hc j u hu
    rw [Addr.add_mid];exact this
   have hc2 : ∀ j u,(bdC l[k + 1])[j]? = some u → wr.drew.cell? ((⟨ab,ao + (k + 1) * 4,none⟩ : Addr).add j) = some u:=fun j u hu => by
    have:=hc' j u hu
    rw [Addr.add_mid];exact this
   have hno : ltH l[k].1 l[k + 1].1 = false → ordB (l.map (·.1)) = false:=fun h => ordB_not (i:=k) (by rw [List.length_map];exact hlt) (by rw [List.getElem_map,List.getElem_map];exact h)
   have hyes : ltH l[k].1 l[k + 1].1 = true → ∀ j,j < k + 1 → ∀ (h : j + 1 < l.length),ltH l[j].1 l[j + 1].1 = true:=fun h j hj hj2 => by
    by_cases e : j = k
    ·subst e;exact h
    ·exact hord j (by omega) hj2
   generalize l[k] = x at *
   generalize l[k + 1] = y at *
   have HC:=Lib.hid (fun V => bondsCmp_any x y V)
   have hwr : IntKind.i64.wrap (k : Int) = (k : Int):=by simp [IntKind.wrap,IntKind.bits,IntKind.signed];omega
   have hki : (k : Int) < (l.length : Int):=by omega
   have hki2 : (k : Int) + 1 < (l.length : Int):=by omega
   obtain ⟨Hc1,Hc2,Hno,Hyes,HB⟩:=hid5 hc1 hc2 hno hyes hB
   clear hc1 hc2 hno hyes hB
   clear hc hc' hord HA
   go_wp2_with fail
   refine wp_planR 10 [0,1,2,6,7] [some 12,some 13,some 14,some 15,some 16,some 17,some 18,some 19,some 20,some 21,some 22,some 23] [[],[],[],[2],[1,2,3],[1,2,3,4],[],[],[6,7],[6,7,8],[0,1,2,3,4,5,6,7,8,9],[0,1,2,3,4,5,6,7,8,9,10]] [0,1,2,3,4,5,6,7,8,9] mixed rfl (by kernel_rfl) (by decide) (by decide) rfl ?_
   iterate 10 apply Exists.intro
   refine ⟨rfl,?_,?_⟩
   ·simp only [tS,List.take_zero,AllFrom.cons_eq,AllFrom.nil_eq,OpGoalQ]
    refine ⟨?_,?_,?_,?_,?_,?_,?_,?_,?_,?_,trivial⟩
    all_goals (intro σ hp;(try simp only [gZ,gS,mC,mN,preF_cons,preF_nil,isV,and_true] at hp);(first | (have hq : True:=hp;clear hq hp) | skip))
    iterate 5 · (go_simp;exact ⟨rfl,rfl⟩)
    ·(simp only [wantedL_none,↓reduceIte,gZ,gS];refine yr_load 55 (.tmp 16) (by rfl) ⟨ab,ao + k * 4,none⟩ ?_ (bdC x) _ Tryz.underlying55 rfl (sz_Bond _) Hc1.out ?_;(· go_simp);(· exact ⟨rfl,rfl⟩))
    iterate 3 · (go_simp;exact ⟨rfl,rfl⟩)
    ·(simp only [wantedL_none,↓reduceIte,gZ,gS];refine yr_load 55 (.tmp 20) (by rfl) ⟨ab,ao + (k + 1) * 4,none⟩ ?_ (bdC y) _ Tryz.underlying55 rfl (sz_Bond _) Hc2.out ?_;(· go_simp);(· exact ⟨rfl,rfl⟩))
   intro σ hp
   simp only [gZ,gS,mC,mN,preF_cons,preF_nil,isV,and_true] at hp
   simp only [dS,List.drop_zero]
   go_simp
   clear hp
   go_wp2_with fail
   refine (HC.out _).mono ?_
   rintro e w2 ⟨rfl,hG⟩
   obtain ⟨q,os,rfl⟩:=hG
   have hB2:=HB.out.drew.trans ((Lib.below_grow wr.drew.heap.size wr.drew (Nat.le_refl _) q os).mono hsz)
   generalize Sort.grow (wr.drew.drewN q) os = w2 at *
   have HB2:=Lib.hid hB2
   clear hB2
   cases hlt2 : ltH x.1 y.1 with
   | true =>
    have hneg:=(cmpH_lt x.1 y.1).2 hlt2
    have Hy:=Lib.hid (Hyes.out hlt2)
    have hge : ¬ (0 : Int) ≤ cmpH x.1 y.1:=by omega
    clear hlt2
    generalize cmpH x.1 y.1 = r at *
    go_wp2
    refine ⟨rfl,?_⟩
    go_wp2
    go_roundw
    case rel => exact ⟨k + 1,by omega,by go_num,Hy.out,HB2.out⟩
    case measure => simp [Go.RowKit.intOf];omega
   | false =>
    have hge : (0 : Int) ≤ cmpH x.1 y.1:=by
     rcases Int.lt_or_le (cmpH x.1 y.1) 0 with h | h
     ·rw [(cmpH_lt x.1 y.1).1 h] at hlt2;cases hlt2
     ·exact h
    have Hf:=Lib.hid (Hno.out hlt2)
    clear hlt2
    generalize cmpH x.1 y.1 = r at *
    go_wp2
    refine ⟨rfl,?_⟩
    go_wp2
    go_ret
    exact ⟨by rw [Hf.out];rfl,HB2.out⟩
  ·have Hf:=Lib.hid (show ordB (l.map (·.1)) = true from ordB_of fun i hi => by
    rw [List.length_map] at hi
    rw [List.getElem_map,List.getElem_map]
    exact hord i (by omega) hi)
   have HB:=Lib.hid hB
   clear hB
   clear hord
   go_wp2
   go_ret
   exact ⟨by rw [Hf.out];rfl,HB.out⟩
end Go.Proofs.YtoheblfpjinmnaaGreatDoor
namespace Go.Proofs.YtoheblfpjinmnaaGreatDoor
open Go Go.RowKit
attribute [local go_sem] AllFrom.cons_eq AllFrom.nil_eq putF_nil putF_cons wantedL_none wantedL_some OpGoalT OpGoalV OpGoalQ OpGoalA OpGoalK YieldsR preF_nil preF_cons
theorem lies_new {w : World} {T : TypeId} {xs : List Value} {n : Nat} (hn : n = w.heap.size) : Lies (w.alloc (.cells xs.toArray T)) (w.alloc (.cells xs.toArray T)).heap.size (some ⟨n,0,none⟩) xs:=by
 intro j u hu
 refine ⟨_,rfl,by subst hn;simp,?_⟩
 exact new_rec hn (by simp) j u hu
section
variable {z p f : Nat} {sl sl' : Sl} {L L' : List Rw} {B B' : List Bd} {w w' : World} {F G : List Nat}
end
theorem WorldAt.putSlots {w : World} {p ps mt mp s : Nat} {sl0 sl : Sl} {tb : List (Nat × Nat)} {rw : Nat → List Rw} {pl : List Pl} {FS FS2 : List Nat} {Fs : Nat → List Nat} {c : Nat → Nat} (h : WorldAt w p ps mt mp sl0 tb rw pl FS Fs c) (hs : RepS w s sl FS2) (hd : ∀ y ∈ FS2,y ∉ wF p mt mp tb FS Fs) :
  WorldAt (w.setCell ⟨p,0,none⟩ (.pointer (some ⟨s,0,none⟩))) p s mt mp sl tb rw pl FS2 Fs (fun y => if y ∈ FS2 then 2 else c y):=by
 have hM : Mod [p] w (w.setCell ⟨p,0,none⟩ (.pointer (some ⟨s,0,none⟩))):=(Mod.refl _ _).setCell (.inl (by simp)) _
 have hp2 : p ∉ FS2:=fun e => hd p e (mem_wF.2 (.inl rfl))
 have hmt2 : mt ∉ FS2:=fun e => hd mt e (mem_wF.2 (.inr (.inl rfl)))
 have hmp2 : mp ∉ FS2:=fun e => hd mp e (mem_wF.2 (.inr (.inr (.inl rfl))))
 have hpm : p ≠ mt:=fun e => by have h1:=h.cp;have h2:=h.ct;rw [e] at h1;omega
 have hpp : p ≠ mp:=fun e => by have h1:=h.cp;have h2:=h.cm;rw [e] at h1;omega
 refine ⟨?_,hs.mod hM (fun y hy e => ?_),h.tm.mod hM (by simpa using hpm.symm),h.pm.mod hM (by simpa using hpp.symm),fun t ht => (h.tab t ht).mod hM (fun y hy e => ?_),?_,fun y hy => ?_,?_,?_,fun t ht y hy => ?_⟩
 ·rw [blk_set h.blk 0 _];rfl
 ·have : y = p:=by simpa using e
  exact hp2 (this ▸ hy)
 ·have e2 : y = p:=by simpa using e
  have h1:=h.cb t ht y hy
  rw [e2,h.cp] at h1;omega
 ·show (if _ then _ else _) = 1
  rw [if_neg hp2];exact h.cp
 ·show (if _ then _ else _) = 2
  rw [if_pos hy]
 ·show (if _ then _ else _) = 3
  rw [if_neg hmt2];exact h.ct
 ·show (if _ then _ else _) = 4
  rw [if_neg hmp2];exact h.cm
 ·show (if _ then _ else _) = 5 + t.1
  rw [if_neg (fun e => hd y e (mem_wF.2 (.inr (.inr (.inr (.inr ⟨t,ht,hy⟩))))))]
  exact h.cb t ht y hy
theorem app_int1 {w : World} {ops : Array Oper} {rest : List Oper} {o : Oper} {a : Act} {Q : Exit → Act → World → Prop} (hgd : o.guard = none) (s x : Operand)
  (ho : o.op = .call { callee:=.builtin .append,args:=#[s,x],argTypes:=#[22,22] }) (base : Nat) (v : Value) (l : List Int) (y : Int) (ad : Addr) (c : Nat)
  (hs : a.eval s = v) (hown : w.ownsRow base 3 1 v l.length (ints l)) (hx : a.eval x = .slice (some ad) 1 c) (hc : w.cell? ad = some (.int .i64 y))
  (hlen : l.length < 1200000000000) (hbase : base ≤ w.heap.size)
  (h : ∀ v' w',w'.ownsRow base 3 1 v' (l ++ [y]).length (ints (l ++ [y])) → Below base w w' → wpList Tryz.prog ops Q rest (a.put o.dst v') w') : wpList Tryz.prog ops Q (o :: rest) a w:=by
 rw [ints_flat] at hown
 refine app_rec (enc:=intC) (n:=1) (z:=.int .i64 0) (bytes:=8) hgd s x 22 3 ho Tryz.underlying22 info_int rfl (by omega) (by omega) intC_one (fun _ => rfl) base v l y ad c hs hown hx (fun j u hu => ?_) (by omega) hbase ?_
 ·match j,hu with
  | 0,hu => simp [intC] at hu;subst hu;rw [show ad.add 0 = ad by unfold Addr.add;split <;> simp_all];exact hc
  | j + 1,hu => simp [intC] at hu
 ·intro v' w' h1 h2 _
  rw [← ints_flat] at h1
  exact h v' w' h1 ((Below.refl base w).grown h2 hbase (own_ge hown))
theorem rowsErr_split {sl : Sl} : ∀ {pre post : List Rw},(∀ r ∈ pre,liveB sl r.1.1 r.1.2 = true ∧ beastZ r.2 = 0) → rowsErr sl (pre ++ post) = rowsErr sl post
 | [],_,_ => rfl
 | r :: rs,post,h => by
  have h0:=h r (by simp)
  rw [List.cons_append,rowsErr,if_neg (by rw [h0.1];simp),if_neg (by rw [h0.2];simp)]
  exact rowsErr_split fun x hx => h x (List.mem_cons_of_mem _ hx)
theorem wlE_at {gs : List Int} {rows : List Rw} (h60 : rows.length ≤ 60) (hE : loadE gs (slotsOf rows) = 0) : wlE gs rows = rowsErr (wlS gs rows) rows:=by
 unfold wlE;rw [if_neg (by omega),if_neg (by simpa using hE)]
theorem rowsErr_at {sl : Sl} {rows : List Rw} {m : Nat} (hm : m < rows.length) (h : ∀ r ∈ rows.take m,liveB sl r.1.1 r.1.2 = true ∧ beastZ r.2 = 0) : rowsErr sl rows = rowsErr sl (rows[m] :: rows.drop (m + 1)):=by
 conv => lhs;rw [get_split hm]
 exact rowsErr_split h
def WLPost (gs : List Int) (rows : List Rw) (w : World) (e : Ending) (w' : World) : Prop :=
 Below w.heap.size w w' ∧ ((wlE gs rows ≠ 0 ∧ e = .returned (.tuple #[.pointer none,.int .i64 (wlE gs rows)])) ∨
  (wlE gs rows = 0 ∧ ∃ p F,e = .returned (.tuple #[.pointer (some ⟨p,0,none⟩),.int .i64 0]) ∧ RepW w' p (wlS gs rows) (wlL gs rows) F ∧ (∀ y ∈ F,w.heap.size ≤ y)))
section
variable {w : World} {A A2 : Option Addr} {c c2 : Nat} {gs : List Int} {rows : List Rw}
set_option maxRecDepth 20000 in
set_option maxHeartbeats 2000000 in
theorem wload_long (h60 : 60 < rows.length) (hl : rows.length ≤ 9223372036854775807) : Calls Tryz.prog 47 #[.slice A gs.length c,.slice A2 rows.length c2] w (WLPost gs rows w):=by
 have he : wlE gs rows = 2:=by unfold wlE;rw [if_pos h60]
 unfold WLPost
 rw [he]
 clear he
 have h1 : (60 : Int) < (rows.length : Int):=by omega
 go_enter Tryz.func47,Tryz.ntmps47
 go_wp2
 go_ret2
 exact ⟨Below.refl _ _,.inl ⟨by simp,rfl⟩⟩
set_option maxRecDepth 20000 in
set_option maxHeartbeats 4000000 in
theorem wload_in (h60 : rows.length ≤ 60) (hg : gs.length ≤ 9223372036854775807) (hA : Lies w w.heap.size A (ints gs)) (hA2 : Lies w w.heap.size A2 (rows.flatMap rwC)) : Calls Tryz.prog 47 #[.slice A gs.length c,.slice A2 rows.length c2] w (WLPost gs rows w):=by
 have h1 : ¬ (60 : Int) < (rows.length : Int):=by omega
 obtain ⟨HA,HA2⟩:=hid2 hA hA2
 clear hA hA2
 go_enter Tryz.func47,Tryz.ntmps47
 go_wp2_with fail
 go_loopw [6,20] (fun v i wr => ∃ m : Nat,m ≤ rows.length ∧ i = .int .i64 m ∧ wr.ownsRow w.heap.size 3 1 v ((slotsOf rows).take m).length (ints ((slotsOf rows).take m)) ∧ Below w.heap.size w wr) (fun _ i _ => rows.length - (Go.RowKit.intOf i).toNat)
 case atStart => exact ⟨0,by omega,rfl,⟨rfl,.inl ⟨rfl,rfl⟩⟩,Below.refl _ _⟩
 case round =>
  obtain ⟨m,hm,rfl,hown,hB⟩:=hrel
  by_cases hlt : m < rows.length
  ·
   obtain ⟨ab,ao,rfl,hal,hc⟩:=HA2.out.rec_at rwC_len (by omega) hlt
   have hq : ∀ j u,(rwC rows[m])[j]? = some u → wr.cell? ((⟨ab,ao + m * 11,none⟩ : Addr).add j) = some u:=fun j u hu => (hB.cell (p:=(⟨ab,ao + m * 11,none⟩ : Addr).add j) (by rw [add_block];exact hal)).trans (by first | exact hc j u hu | (have:=hc j u hu;rw [Addr.add_mid];exact this))
   have hts:=take_succ_get rows m hlt
   have hxr : rows[m] ∈ rows:=List.getElem_mem hlt
   have hni : (m : Int) < (rows.length : Int):=by omega
   have hst : (slotsOf rows).take (m + 1) = (slotsOf rows).take m ++ [rows[m].1.1]:=by
    unfold slotsOf;rw [take_succ_get _ m (by rw [List.length_map];exact hlt),List.getElem_map]
   have hlen : ((slotsOf rows).take m).length < 1200000000000:=by rw [List.length_take];omega
   generalize (slotsOf rows).take m = M at *
   generalize rows[m] = x at *
   obtain ⟨⟨s1,g1⟩,K,a0,a1,a2,a3,a4,a5,a6,a7⟩:=x
   obtain ⟨w3,hw3⟩ : ∃ w3,w3 = wr.alloc (.cells #[.int .i64 s1,.int .i64 g1,.int .i64 K,.int .i64 a0,.int .i64 a1,.int .i64 a2,.int .i64 a3,.int .i64 a4,.int .i64 a5,.int .i64 a6,.int .i64 a7] 51):=⟨_,rfl⟩
   have hk3 : w3.heap[wr.heap.size]? = some (.cells #[.int .i64 s1,.int .i64 g1,.int .i64 K,.int .i64 a0,.int .i64 a1,.int .i64 a2,.int .i64 a3,.int .i64 a4,.int .i64 a5,.int .i64 a6,.int .i64 a7] 51 (0,0)):=by rw [hw3];exact heap_alloc_new _ _
   have hb3 : Below wr.heap.size wr w3:=by rw [hw3];exact (Below.refl _ _).alloc (Nat.le_refl _) _
   have HP:=Lib.hid hq;have HOn:=Lib.hid (rwC_one ((s1,g1),K,a0,a1,a2,a3,a4,a5,a6,a7));have HW3:=Lib.hid hw3
   obtain ⟨c0,c1,c2,c3,c4,c5,c6,c7,c8,c9,c10,cl⟩:=cells11 hk3
   have hO3:=row_mod hown (Mod.ofBelow hb3) (by simp)
   have hB3:=hB.trans (hb3.mono hB.size)
   obtain ⟨HO3,HB3,Hst,HLen⟩:=hid4 hO3 hB3 hst hlen
   clear hO3 hB3 hst hlen
   clear hq hc hw3 hown hB hb3 hk3 hts hxr
   go_wp2_with (first | (at_builtin;(refine app_int1 rfl _ _ rfl w.heap.size _ M s1 ⟨w3.heap.size,0,none⟩ 1 rfl (HO3.out.alloc _) rfl (by go_simp) HLen.out (by have:=HB3.out.size;simp;omega) ?_);intro v' w5 hown5 hb5) | (first | (refine wpList_load_flat rfl 51 (.tmp 22) rfl _ rfl (rwC ((s1,g1),K,a0,a1,a2,a3,a4,a5,a6,a7)) _ Tryz.underlying51 rfl (sz_Row _) HP.out ?_) | (refine wpList_store_new rfl 51 (.tmp 8) (.tmp 23) rfl wr (ints zero11) (rwC ((s1,g1),K,a0,a1,a2,a3,a4,a5,a6,a7)) 51 rfl rfl rfl (sz_Row _) HOn.out ?_;rw [show (rwC ((s1,g1),K,a0,a1,a2,a3,a4,a5,a6,a7)).toArray = #[.int .i64 s1,.int .i64 g1,.int .i64 K,.int .i64 a0,.int .i64 a1,.int .i64 a2,.int .i64 a3,.int .i64 a4,.int .i64 a5,.int .i64 a6,.int .i64 a7] from rfl,← HW3.out];clear HW3)))
   go_roundw
   case rel => exact ⟨m + 1,by omega,by go_num,by rw [Hst.out];exact hown5,(HB3.out.alloc HB3.out.size _).trans hb5⟩
   case measure => simp [Go.RowKit.intOf];omega
   all_goals exact undef
  ·obtain rfl : m = rows.length:=by omega
   rw [List.take_of_length_le (by unfold slotsOf;rw [List.length_map];exact Nat.le_refl _)] at hown
   obtain ⟨Ak,ck,hve,hck,hLk⟩:=own_lies hown
   subst hve
   have hlk : (slotsOf rows).length ≤ 60:=by unfold slotsOf;rw [List.length_map];exact h60
   have hAr:=(HA.out.below hB).mono hB.size
   by_cases hE : loadE gs (slotsOf rows) = 0
   ·have H9:=Lib.hid (load_ok A c gs Ak ck (slotsOf rows) wr (by omega) (by omega) hAr hLk hE)
    obtain ⟨hI,hdup,-⟩:=loadE_zero hE
    have hnd:=nodup_of_dupB hdup
    obtain ⟨HB,HE,HI,HND⟩:=hid4 hB hE hI hnd
    clear hB hE hI hnd
    clear hown hck hLk hlk hAr hdup
    go_wp2_with fail
    refine H9.out.mono ?_
    rintro e w5 ⟨ss,FS2,rfl,hS,hFS2,hok,hb5⟩
    have hB5:=HB.out.trans (hb5.mono HB.out.size)
    obtain ⟨HS,HFS2,HB5,HOK⟩:=hid4 hS hFS2 hB5 hok
    clear hS hFS2 hB5 hok
    clear hb5
    go_wp2_with fail
    refine (worldNew_any _).mono ?_
    rintro e w6 ⟨p,F0,rfl,hW6,hF0,hb6⟩
    obtain ⟨ps0,mt,mp,tb,rw,pl,FS0,Fs,cc,hWA,hC,-,rfl⟩:=hW6
    have e0:=blk_cell hWA.blk 0
    simp only [eA,eZ,eS] at e0
    have f0:=blk_free hWA.blk 0
    have hpl:=blk_lt hWA.blk
    have hSl:=HS.out.lt
    have hPS:=hWA.putSlots (HS.out.mod (Mod.ofBelow hb6) (by simp)) (fun y hy e => by have:=hSl y hy;have:=hF0 y e;omega)
    have hB6:=HB5.out.trans (hb6.mono HB5.out.size)
    have hs5:=HB5.out.size
    have hp6 : w.heap.size ≤ p:=by have:=hF0 p (mem_wF.2 (.inl rfl));omega
    have hFw : ∀ y ∈ wF p mt mp tb FS2 Fs,w.heap.size ≤ y:=fun y hy => by
     rcases mem_wF.1 hy with h | h | h | h | h
     ·subst h;exact hp6
     ·have:=hF0 y (mem_wF.2 (.inr (.inl h)));omega
     ·have:=hF0 y (mem_wF.2 (.inr (.inr (.inl h))));omega
     ·have h7:=HFS2.out y h;have:=HB.out.size;omega
     ·have:=hF0 y (mem_wF.2 (.inr (.inr (.inr (.inr h)))));omega
    obtain ⟨w7,hw7⟩ : ∃ w7,w6.setCell ⟨p,0,none⟩ (.pointer (some ⟨ss,0,none⟩)) = w7:=⟨_,rfl⟩
    rw [hw7] at hPS
    have hB7 : Below w.heap.size w w7:=by rw [← hw7];exact hB6.setCell hp6 _
    obtain ⟨HPS,HFW,HB7,HC,HF0⟩:=hid5 hPS hFw hB7 hC hF0
    clear hPS hFw hB7 hC hF0
    clear hWA hb6 hB6 hSl hs5 hp6
    go_wp2_with fail
    clear e0 f0 hpl hw7
    go_loopw [47] (fun i wr => ∃ (m : Nat) (tb : List (Nat × Nat)) (rw : Nat → List Rw) (pl : List Pl) (FS : List Nat) (Fs : Nat → List Nat) (cc : Nat → Nat),m ≤ rows.length ∧ i = .int .i64 m ∧ WorldAt wr p ss mt mp (wlS gs rows) tb rw pl FS Fs cc ∧ WCore (· ∈ rows.take m) (tb.map (·.1)) rw pl ∧ (∀ y ∈ wF p mt mp tb FS Fs,w.heap.size ≤ y) ∧ Below w.heap.size w wr ∧ (∀ r ∈ rows.take m,liveB (wlS gs rows) r.1.1 r.1.2 = true ∧ beastZ r.2 = 0)) (fun i _ => rows.length - (Go.RowKit.intOf i).toNat)
    case atStart => exact ⟨0,tb,rw,pl,FS2,Fs,_,by omega,rfl,HPS.out,HC.out.congr (by simp),HFW.out,HB7.out,by simp⟩
    case round =>
     obtain ⟨m,tb,rw,pl,FS,Fs,cc,hm,rfl,hW,hC,hFw,hB,hpre⟩:=hrel
     clear HPS HFW HC HF0 HB7
     by_cases hlt : m < rows.length
     ·
      obtain ⟨ab,ao,rfl,hal,hc⟩:=HA2.out.rec_at rwC_len (by omega) hlt
      have hq : ∀ j u,(rwC rows[m])[j]? = some u → wr.cell? ((⟨ab,ao + m * 11,none⟩ : Addr).add j) = some u:=fun j u hu => (hB.cell (p:=(⟨ab,ao + m * 11,none⟩ : Addr).add j) (by rw [add_block];exact hal)).trans (by first | exact hc j u hu | (have:=hc j u hu;rw [Addr.add_mid];exact this))
      have hts:=take_succ_get rows m hlt
      have hxr : rows[m] ∈ rows:=List.getElem_mem hlt
      have hni : (m : Int) < (rows.length : Int):=by omega
      have herr:=rowsErr_at hlt hpre
      have hEw:=wlE_at h60 HE.out
      rw [herr] at hEw
      have hnew : ∀ y,y ∈ rows.take m → y.1.1 ≠ rows[m].1.1:=fun y hy e => by
       obtain ⟨i,hi,hye⟩:=List.mem_iff_getElem.1 hy
       rw [List.length_take] at hi
       rw [List.getElem_take] at hye
       have:=List.pairwise_iff_getElem.1 HND.out i m (by unfold slotsOf;rw [List.length_map];omega) (by unfold slotsOf;rw [List.length_map];omega) (by omega)
       unfold slotsOf at this
       rw [List.getElem_map,List.getElem_map,hye] at this
       exact this e
      obtain ⟨sN,hsN,hsN2⟩ : ∃ sN : Nat,rows[m].1.1 = (sN : Int) ∧ sN < 256:=by
       have h1:=HI.out.keys m (by unfold slotsOf;rw [List.length_map];exact hlt)
       unfold slotsOf at h1
       rw [List.getElem_map] at h1
       have:=HI.out.len
       exact ⟨rows[m].1.1.toNat,by omega,by omega⟩
      have hdl : rows.drop (m + 1) = rows.drop (m + 1):=rfl
      generalize rows.drop (m + 1) = post at *
      generalize rows[m] = x at *
      obtain ⟨⟨s1,g1⟩,K,a0,a1,a2,a3,a4,a5,a6,a7⟩:=x
      simp only at hsN
      subst hsN
      obtain ⟨w3,hw3⟩ : ∃ w3,w3 = wr.alloc (.cells #[.int .i64 (sN : Int),.int .i64 g1,.int .i64 K,.int .i64 a0,.int .i64 a1,.int .i64 a2,.int .i64 a3,.int .i64 a4,.int .i64 a5,.int .i64 a6,.int .i64 a7] 51):=⟨_,rfl⟩
      have hk3 : w3.heap[wr.heap.size]? = some (.cells #[.int .i64 (sN : Int),.int .i64 g1,.int .i64 K,.int .i64 a0,.int .i64 a1,.int .i64 a2,.int .i64 a3,.int .i64 a4,.int .i64 a5,.int .i64 a6,.int .i64 a7] 51 (0,0)):=by rw [hw3];exact heap_alloc_new _ _
      have hb3 : Below wr.heap.size wr w3:=by rw [hw3];exact (Below.refl _ _).alloc (Nat.le_refl _) _
      have HP:=Lib.hid hq;have HOn:=Lib.hid (rwC_one (((sN : Int),g1),K,a0,a1,a2,a3,a4,a5,a6,a7));have HW3:=Lib.hid hw3
      obtain ⟨c0,c1,c2,c3,c4,c5,c6,c7,c8,c9,c10,cl⟩:=cells11 hk3
      have hW3:=hW.below hb3
      have hB3:=hB.trans (hb3.mono hB.size)
      have H17:=Lib.hid (live_any ss (wlS gs rows) FS (sN : Int) g1 w3 hW3.sl)
      have hkk : ∀ r ∈ rows.take (m + 1),r ∈ rows.take m ∨ r = (((sN : Int),g1),K,a0,a1,a2,a3,a4,a5,a6,a7):=fun r hr => by
       rw [hts] at hr
       rcases List.mem_append.1 hr with h | h
       ·exact .inl h
       ·exact .inr (by simpa using h)
      have hkk2 : ∀ r,(r ∈ rows.take m ∨ r = (((sN : Int),g1),K,a0,a1,a2,a3,a4,a5,a6,a7)) ↔ r ∈ rows.take (m + 1):=fun r => by rw [hts,List.mem_append,List.mem_singleton]
      cases hlv : liveB (wlS gs rows) (sN : Int) g1 with
      | false =>
       have hw7 : wlE gs rows = 7:=by rw [hEw,rowsErr,if_pos hlv]
       rw [hlv] at H17
       obtain ⟨HW7,HB3⟩:=hid2 hw7 hB3
       clear hw7 hB3
       clear hq hc hw3 hW hC hFw hB hpre hb3 hk3 hts hxr herr hEw hnew hdl hW3 hkk hkk2 hlv
       go_wp2_with (first | (refine wpList_load_flat rfl 51 (.tmp 49) rfl _ rfl (rwC (((sN : Int),g1),K,a0,a1,a2,a3,a4,a5,a6,a7)) _ Tryz.underlying51 rfl (sz_Row _) HP.out ?_) | (refine wpList_store_new rfl 51 (.tmp 13) (.tmp 50) rfl wr (ints zero11) (rwC (((sN : Int),g1),K,a0,a1,a2,a3,a4,a5,a6,a7)) 51 rfl rfl rfl (sz_Row _) HOn.out ?_;rw [show (rwC (((sN : Int),g1),K,a0,a1,a2,a3,a4,a5,a6,a7)).toArray = #[.int .i64 (sN : Int),.int .i64 g1,.int .i64 K,.int .i64 a0,.int .i64 a1,.int .i64 a2,.int .i64 a3,.int .i64 a4,.int .i64 a5,.int .i64 a6,.int .i64 a7] from rfl,← HW3.out];clear HW3))
       refine H17.out.mono ?_
       rintro e w8 ⟨rfl,hb8⟩
       have hB8:=HB3.out.trans (hb8.mono HB3.out.size)
       have HB8:=Lib.hid hB8
       clear hB8
       clear hb8
       go_wp2
       go_ret2
       exact ⟨HB8.out,.inl ⟨by rw [HW7.out];simp,by rw [HW7.out];rfl⟩⟩
       all_goals exact undef
      | true =>
       rw [hlv] at H17
       have H19:=Lib.hid (fun w => checkBeast_any K a0 a1 a2 a3 a4 a5 a6 a7 w)
       by_cases hbz : beastZ (K,a0,a1,a2,a3,a4,a5,a6,a7) = 0
       ·have hbz2 : beastE K [a0,a1,a2,a3,a4,a5,a6,a7] = 0:=hbz
        rw [hbz2] at H19
        have H22:=Lib.hid (fun W (hB' : Below w3.heap.size w3 W) => lay_core (L:=rows) (hW3.below hB') hC (fun y hy => List.mem_of_mem_take hy) h60 sN hsN2 g1 K a0 a1 a2 a3 a4 a5 a6 a7 hbz hnew)
        have hpre2 : ∀ r ∈ rows.take (m + 1),liveB (wlS gs rows) r.1.1 r.1.2 = true ∧ beastZ r.2 = 0:=fun r hr => by
         rcases hkk r hr with h | h
         ·exact hpre r h
         ·subst h;exact ⟨hlv,hbz⟩
        obtain ⟨HB3,HFW,HKK,HPRE,HK3⟩:=hid5 hB3 hFw hkk2 hpre2 hk3
        clear hB3 hFw hkk2 hpre2 hk3
        clear hq hc hw3 hW hC hB hpre hb3 hts hxr herr hEw hnew hdl hkk hlv hbz hbz2
        go_wp2_with (first | (refine wpList_load_flat rfl 51 (.tmp 49) rfl _ rfl (rwC (((sN : Int),g1),K,a0,a1,a2,a3,a4,a5,a6,a7)) _ Tryz.underlying51 rfl (sz_Row _) HP.out ?_) | (refine wpList_store_new rfl 51 (.tmp 13) (.tmp 50) rfl wr (ints zero11) (rwC (((sN : Int),g1),K,a0,a1,a2,a3,a4,a5,a6,a7)) 51 rfl rfl rfl (sz_Row _) HOn.out ?_;rw [show (rwC (((sN : Int),g1),K,a0,a1,a2,a3,a4,a5,a6,a7)).toArray = #[.int .i64 (sN : Int),.int .i64 g1,.int .i64 K,.int .i64 a0,.int .i64 a1,.int .i64 a2,.int .i64 a3,.int .i64 a4,.int .i64 a5,.int .i64 a6,.int .i64 a7] from rfl,← HW3.out];clear HW3))
        refine H17.out.mono ?_
        rintro e w8 ⟨rfl,hb8⟩
        have hk8:=(Mod.ofBelow hb8).keep HK3.out (by simp)
        clear c0 c1 c2 c3 c4 c5 c6 c7 c8 c9 c10 cl
        obtain ⟨c0,c1,c2,c3,c4,c5,c6,c7,c8,c9,c10,cl⟩:=cells11 hk8
        obtain ⟨Hb8,HK8⟩:=hid2 hb8 hk8
        clear hb8 hk8
        go_wp2_with fail
        refine (H19.out _).mono ?_
        rintro e w9 ⟨rfl,hb9⟩
        have hb39:=Hb8.out.trans (hb9.mono Hb8.out.size)
        have hk9:=(Mod.ofBelow hb9).keep HK8.out (by simp)
        clear c0 c1 c2 c3 c4 c5 c6 c7 c8 c9 c10 cl
        obtain ⟨c0,c1,c2,c3,c4,c5,c6,c7,c8,c9,c10,cl⟩:=cells11 hk9
        have H22b:=Lib.hid (H22.out w9 hb39)
        have hB9:=HB3.out.trans (hb39.mono HB3.out.size)
        have HB9:=Lib.hid hB9
        clear hB9
        clear hb9 hk9 hb39 H22
        go_wp2_with fail
        refine H22b.out.mono ?_
        rintro e w10 ⟨rfl,tb',rw',pl',FS',Fs',cc',hW',hC',hT'⟩
        have hF' : ∀ y ∈ wF p mt mp tb' FS' Fs',w.heap.size ≤ y:=fun y hy => by
         rcases hT'.new y hy with h | h
         ·exact HFW.out y h
         ·have:=HB9.out.size;omega
        have hB10:=HB9.out.trans (hT'.mod.toBelow HFW.out HB9.out.size)
        have hC2:=hC'.congr HKK.out
        obtain ⟨HWn,HCn,HFn,HBn⟩:=hid4 hW' hC2 hF' hB10
        clear hW' hC2 hF' hB10
        clear hC' hT'
        go_wp2
        go_roundw
        case rel => exact ⟨m + 1,tb',rw',pl',FS',Fs',cc',by omega,by go_num,HWn.out,HCn.out,HFn.out,HBn.out,HPRE.out⟩
        case measure => simp [Go.RowKit.intOf];omega
        all_goals exact undef
       ·have hwz : wlE gs rows = beastZ (K,a0,a1,a2,a3,a4,a5,a6,a7):=by rw [hEw,rowsErr,if_neg (by rw [hlv];simp),if_pos hbz]
        have hbz2 : beastE K [a0,a1,a2,a3,a4,a5,a6,a7] = beastZ (K,a0,a1,a2,a3,a4,a5,a6,a7):=rfl
        rw [hbz2] at H19
        generalize beastZ (K,a0,a1,a2,a3,a4,a5,a6,a7) = z at *
        have hz : (z != 0) = true:=by simpa using hbz
        obtain ⟨HB3,HWZ,HBZ,HK3⟩:=hid4 hB3 hwz hbz hk3
        clear hB3 hwz hbz hk3
        clear hq hc hw3 hW hC hFw hB hpre hb3 hts hxr herr hEw hnew hdl hW3 hkk hkk2 hlv
        go_wp2_with (first | (refine wpList_load_flat rfl 51 (.tmp 49) rfl _ rfl (rwC (((sN : Int),g1),K,a0,a1,a2,a3,a4,a5,a6,a7)) _ Tryz.underlying51 rfl (sz_Row _) HP.out ?_) | (refine wpList_store_new rfl 51 (.tmp 13) (.tmp 50) rfl wr (ints zero11) (rwC (((sN : Int),g1),K,a0,a1,a2,a3,a4,a5,a6,a7)) 51 rfl rfl rfl (sz_Row _) HOn.out ?_;rw [show (rwC (((sN : Int),g1),K,a0,a1,a2,a3,a4,a5,a6,a7)).toArray = #[.int .i64 (sN : Int),.int .i64 g1,.int .i64 K,.int .i64 a0,.int .i64 a1,.int .i64 a2,.int .i64 a3,.int .i64 a4,.int .i64 a5,.int .i64 a6,.int .i64 a7] from rfl,← HW3.out];clear HW3))
        refine H17.out.mono ?_
        rintro e w8 ⟨rfl,hb8⟩
        have hk8:=(Mod.ofBelow hb8).keep HK3.out (by simp)
        clear c0 c1 c2 c3 c4 c5 c6 c7 c8 c9 c10 cl
        obtain ⟨c0,c1,c2,c3,c4,c5,c6,c7,c8,c9,c10,cl⟩:=cells11 hk8
        have hB8:=HB3.out.trans (hb8.mono HB3.out.size)
        have HB8:=Lib.hid hB8
        clear hB8
        clear hb8 hk8
        go_wp2_with fail
        refine (H19.out _).mono ?_
        rintro e w9 ⟨rfl,hb9⟩
        have hB9:=HB8.out.trans (hb9.mono HB8.out.size)
        have HB9:=Lib.hid hB9
        clear hB9
        clear hb9
        go_wp2
        go_ret2
        exact ⟨HB9.out,.inl ⟨by rw [HWZ.out];exact HBZ.out,by rw [HWZ.out];rfl⟩⟩
        all_goals exact undef
     ·obtain rfl : m = rows.length:=by omega
      rw [List.take_length] at hC hpre
      have hw0 : wlE gs rows = 0:=by rw [wlE_at h60 HE.out];exact rowsErr_ok.2 hpre
      have hok:=wlok_of hw0
      have hR : RepW wr p (wlS gs rows) (wlL gs rows) (wF p mt mp tb FS Fs):=⟨ss,mt,mp,tb,rw,pl,FS,Fs,cc,hW,hC.congr (fun y => (hok.mem y).symm),hok.wok,rfl⟩
      obtain ⟨HW0,HR,HFw,HB⟩:=hid4 hw0 hR hFw hB
      clear hw0 hR hFw hB
      clear hC hpre hW hok
      go_wp2
      go_ret2
      exact ⟨HB.out,.inr ⟨HW0.out,p,_,rfl,HR.out,HFw.out⟩⟩
   ·have H9:=Lib.hid (load_err A c gs Ak ck (slotsOf rows) wr (by omega) (by omega) hAr hLk hE)
    have hwz : wlE gs rows = loadE gs (slotsOf rows):=by unfold wlE;rw [if_neg (by omega),if_pos hE]
    generalize loadE gs (slotsOf rows) = z at *
    have hz : (z != 0) = true:=by simpa using hE
    obtain ⟨HB,HE,HWZ⟩:=hid3 hB hE hwz
    clear hB hE hwz
    clear hown hck hLk hlk hAr
    go_wp2_with fail
    refine H9.out.mono ?_
    rintro e w5 ⟨rfl,hb5⟩
    have hB5:=HB.out.trans (hb5.mono HB.out.size)
    have HB5:=Lib.hid hB5
    clear hB5
    clear hb5
    go_wp2
    go_ret2
    exact ⟨HB5.out,.inl ⟨by rw [HWZ.out];exact HE.out,by rw [HWZ.out];rfl⟩⟩
end
end Go.Proofs.YtoheblfpjinmnaaGreatDoor
