import Derived.Test.YtehjfmjibiafdaaGreatRunSerialsJ36
/- A part of the proof that RunSerials returns true. -/
namespace Go.Proofs.YtehjfmjibiafdaaGreat
open Go Go.RowKit
attribute [local go_sem] AllFrom.cons_eq AllFrom.nil_eq putF_nil putF_cons wantedL_none wantedL_some OpGoalT OpGoalV OpGoalQ OpGoalA OpGoalK YieldsR preF_nil preF_cons
abbrev Rs:=Nat × TypeId × Nat × Nat × List Value
structure IRs (w0 : World) (R : List Rs) (L : Nat → Bool) (σ : Nat → Value) (V : World) : Prop where
 b : Below w0.heap.size w0 V
 r : ∀ x ∈ R,L x.1 = true → V.ownsRow w0.heap.size x.2.1 x.2.2.1 (σ x.1) x.2.2.2.1 x.2.2.2.2
section
variable {w0 V V' : World} {R : List Rs} {L : Nat → Bool} {σ : Nat → Value}
theorem IRs.start (h : Below w0.heap.size w0 V) : IRs w0 R (fun _ => false) σ V:=⟨h,fun _ _ e => (by cases e)⟩
theorem IRs.read (h : IRs w0 R L σ V) {i : Nat} (hi : i ∉ R.map (·.1)) (v : Value) : IRs w0 R (upd L i) (updv σ i v) V:=by
 refine ⟨h.b,fun x hx e => ?_⟩
 have hne : x.1 ≠ i:=fun e2 => hi (e2 ▸ List.mem_map.2 ⟨x,hx,rfl⟩)
 have e1 : upd L i x.1 = L x.1:=by unfold upd;simp [hne]
 have e2 : updv σ i v x.1 = σ x.1:=by unfold updv;rw [if_neg hne]
 rw [e1] at e
 rw [e2]
 exact h.r x hx e
theorem IRs.got (h : IRs w0 R L σ V) {m : Nat} {v : Value} (hb : Below V.heap.size V V') (hv : ∀ x ∈ R,x.1 = m → V'.ownsRow V.heap.size x.2.1 x.2.2.1 v x.2.2.2.1 x.2.2.2.2) : IRs w0 R (upd L m) (updv σ m v) V':=by
 refine ⟨h.b.trans (hb.mono h.b.size),fun x hx e => ?_⟩
 by_cases hm : x.1 = m
 ·have h1:=hv x hx hm
  have e2 : updv σ m v x.1 = v:=by unfold updv;simp [hm]
  rw [e2]
  exact row_base h1 (fun j hj => Nat.le_trans h.b.size (own_ge h1 j hj))
 ·have e1 : upd L m x.1 = L x.1:=by unfold upd;simp [hm]
  have e2 : updv σ m v x.1 = σ x.1:=by unfold updv;rw [if_neg hm]
  rw [e1] at e
  rw [e2]
  exact row_mod (h.r x hx e) (Mod.ofBelow hb) (by simp)
end
theorem matches_zero' (m : Int) : matchesB m 0 0 0 = true:=by
 rw [matches_eq (by unfold InR;omega)]
 have h0 : ∀ j,bt 0 j = false:=fun j => by simp [bt]
 simp [okTo,anyTo,h0]
theorem rowsM_zero' (L : List Rw) : rowsM L 0 0 0 = L:=by
 unfold rowsM
 exact List.filter_eq_self.2 fun x _ => matches_zero' _
theorem row_none {w : World} {B0 E n k : Nat} {A : Option Addr} {c m : Nat} {xs : List Value} {α : Type} {l : List α} (h : w.ownsRow B0 E n (.slice A k c) m xs) (e : A = none) (hl : l.length = m:=by rfl) : l = [] ∧ c = 0:=by
 subst e
 rcases h with ⟨-,⟨h1,h2⟩ | ⟨g,cap,cur,h1,-⟩⟩
 ·simp only [Value.slice.injEq] at h1
  obtain ⟨-,h3,h4⟩:=h1
  exact ⟨List.eq_nil_of_length_eq_zero (by omega),h4⟩
 ·cases h1
def StPost (sl : Sl) (L : List Rw) (B : List Bd) (w : World) (e : Ending) (w' : World) : Prop :=
 ∃ v1 v2 v3,e = .returned (.agg #[v1,v2,v3]) ∧ w'.ownsRow 0 3 1 v1 (gensS sl).length (ints (gensS sl)) ∧ w'.ownsRow 0 69 11 v2 L.length (L.flatMap rwC) ∧ w'.ownsRow 0 84 4 v3 B.length (B.flatMap bdC) ∧ Below w.heap.size w w'
section
variable {z p f q : Nat} {sl : Sl} {L : List Rw} {B : List Bd} {w : World} {F : List Nat}
theorem v_gensA (h : RepV z p f sl L B w F) : ∃ ps,∀ V,Below w.heap.size w V → V.cell? ⟨z,0,none⟩ = some (.pointer (some ⟨p,0,none⟩)) ∧ V.cell? ⟨z,1,none⟩ = some (.pointer (some ⟨f,0,none⟩)) ∧ z < V.heap.size ∧ V.cell? ⟨p,0,none⟩ = some (.pointer (some ⟨ps,0,none⟩)) ∧ p < V.heap.size ∧ Calls Tryz.prog 37 #[.pointer (some ⟨ps,0,none⟩)] V (MadeInts V.heap.size (gensS sl) V):=by
 obtain ⟨ps,FS,h1,h2,h3⟩:=h.slots
 refine ⟨ps,fun V hV => ?_⟩
 have hc:=(h.below hV).cells
 exact ⟨hc.1,hc.2.1,hc.2.2,(hV.cell (p:=⟨p,0,none⟩) h2).trans h1,Nat.lt_of_lt_of_le h2 hV.size,gens_any ps sl FS V (h3.mod (Mod.ofBelow hV) (by simp)) h.okW.ok.1⟩
set_option maxRecDepth 20000 in
set_option maxHeartbeats 4000000 in
theorem vstate_any (h : RepV z p f sl L B w F) (hl : B.length ≤ 60) : Calls Tryz.prog 11 #[.pointer (some ⟨z,0,none⟩)] w (StPost sl L B w):=by
 obtain ⟨w0,hw0,hb0,hz0,hs0⟩:=box1 w (.cells #[.slice none 0 0,.slice none 0 0,.slice none 0 0] 26)
 have h0:=h.below hb0
 obtain ⟨FW,hW⟩:=h0.w_
 have H1:=Lib.hid (wrows_any hW 0 0 0)
 have hc:=h0.cells
 have hc0:=hc.1;have hzl:=hc.2.2
 obtain ⟨H0,Hb0,Hz0,Hs0⟩:=hid4 h0 hb0 hz0 hs0
 clear h0 hb0 hz0 hs0
 clear hc hW
 go_enter Tryz.func11,Tryz.ntmps11
 go_wp2_with fail
 clear hw0
 refine H1.out.mono ?_
 rintro e w1 ⟨v,rfl,hv,hb1⟩
 rw [show qcheck 0 0 0 = 0 by decide,if_pos rfl,rowsM_zero'] at hv
 rw [show qcheck 0 0 0 = 0 by decide]
 have h1:=H0.out.below hb1
 have hz1:=(Mod.ofBelow hb1).keep Hz0.out (by simp)
 have hb01:=Hb0.out.trans (hb1.mono Hb0.out.size)
 obtain ⟨ps,hA⟩:=v_gensA h1
 obtain ⟨FF,hFF⟩:=h1.f_
 have hBn:=fun V (hb : Below w1.heap.size w1 V) => bonds_any (hFF.below hb) (by omega : B.length ≤ 1200000000000)
 obtain ⟨Hr1,Hz1,Hb01,HA,HBn,Hv⟩:=hid6 h1 hz1 hb01 hA hBn hv
 clear h1 hz1 hb01 hA hBn hv
 clear hb1 H1 hc0 hzl hFF
 go_wp2_with fail
 refine wp_planK [7,13] 14 [0,8,9] [some 14,some 15,some 16,some 17,some 18,some 19,some 20,some 21,some 22,some 23,some 24,some 25,some 26,some 27,some 28,none] [[],[0],[0,1],[0,1,2],[0,1,2,3],[0,1,2,3,4],[0,1,2,3,4,5],[0,1,2,3,4,5,6],[],[],[9],[9,10],[9,10,11],[0,1,2,3,4,5,6,7,9,10,11,12],[0,1,2,3,4,5,6,7,8,9,10,11,12,13],[0,1,2,3,4,5,6,7,8,9,10,11,12,13,14]] [0,1,2,3,4,5,6,7,8,9,10,11,12,13] (fun Lf σ W => IRs w1 [(7,3,1,(gensS sl).length,ints (gensS sl)),(13,84,4,B.length,B.flatMap bdC)] Lf σ W) mixed rfl (by kernel_rfl) (by decide) (by decide) (by decide) (IRs.start below_drew) rfl ?_
 iterate 14 apply Exists.intro
 refine ⟨rfl,?_,?_⟩
 ·simp only [tS,List.take_zero,AllFrom.cons_eq,AllFrom.nil_eq,OpGoalK]
  refine ⟨?_,?_,?_,?_,?_,?_,?_,?_,?_,?_,?_,?_,?_,?_,trivial⟩
  all_goals (intro L' σ V h1 h2 h3 hI hp;have HA1:=Lib.hid h1;have HA2:=Lib.hid h2;have HA3:=Lib.hid h3;clear h1 h2 h3;(try simp only [gZ,gS,preK_cons,preK_nil] at hp);(try simp only [List.mem_cons,List.not_mem_nil,or_false,eq_self,Nat.reduceEqDiff,Nat.reduceAdd,Nat.zero_add,false_or,true_or,true_and,and_true] at hp);(first | (have hq : True:=hp;clear hq hp) | skip);have HI:=Lib.hid hI;clear hI)
  all_goals (
   have hA:=HA.out V HI.out.b
   have hc0:=hA.1;have hc1:=hA.2.1;have hzl:=hA.2.2.1;have hp0:=hA.2.2.2.1;have hpl:=hA.2.2.2.2.1
   have HG:=Lib.hid hA.2.2.2.2.2
   clear hA)
  iterate 7 · (go_simp;exact ⟨.inr rfl,HI.out.read (by simp) _⟩)
  ·go_simp
   refine (HG.out).mono ?_
   rintro e V' ⟨v,rfl,hv,hb⟩
   exact ⟨_,rfl,PostK.mk (c:=undef) (.inl (by decide)) (HI.out.got hb (fun x hx e => by
    simp only [List.mem_cons,List.not_mem_nil,or_false] at hx
    rcases hx with rfl | rfl <;> first | exact hv | (exfalso;revert e;simp)))⟩
  iterate 5 · (go_simp;exact ⟨.inr rfl,HI.out.read (by simp) _⟩)
  ·go_simp
   refine (HBn.out _ HI.out.b).mono ?_
   rintro e V' ⟨v,rfl,hv,hb⟩
   exact ⟨_,rfl,PostK.mk (c:=undef) (.inl (by decide)) (HI.out.got hb (fun x hx e => by
    simp only [List.mem_cons,List.not_mem_nil,or_false] at hx
    rcases hx with rfl | rfl <;> first | exact hv | (exfalso;revert e;simp)))⟩
 ·intro L' σ V h1 hI hp
  have hr7:=hI.r _ (List.mem_cons_self ..) (h1 7 (by decide))
  have hr13:=hI.r _ (List.mem_cons_of_mem _ (List.mem_cons_self ..)) (h1 13 (by decide))
  have hb2:=hI.b
  clear h1 hI
  simp only [preK_cons,preK_nil,gZ,gS] at hp;simp only [List.mem_cons,List.not_mem_nil,or_false,eq_self,Nat.reduceEqDiff,false_or,true_or,true_and,and_true] at hp
  simp only at hr7 hr13
  have hvV:=row_mod Hv.out (Mod.ofBelow hb2) (by simp)
  have hzV:=(Mod.ofBelow hb2).keep Hz1.out (by simp)
  have hbV:=Hb01.out.trans (hb2.mono Hb01.out.size)
  obtain ⟨c0,c1,c2,cl⟩:=cells3 hzV
  have f0:=blk_free hzV 0
  have f1:=blk_free hzV 1
  have f2:=blk_free hzV 2
  generalize hs7 : σ 7 = v7 at *
  generalize hs13 : σ 13 = v13 at *
  obtain ⟨A7,c7,rfl,-,-⟩:=row_slice hr7
  obtain ⟨A8,c8,rfl,-,-⟩:=row_slice hvV
  obtain ⟨A9,c9,rfl,-,-⟩:=row_slice hr13
  have hne : ∀ x : Nat,w1.heap.size ≤ x → w.heap.size ≠ x:=fun x hx => by have:=Hb01.out.size;have:=Hs0.out;have:=blk_lt Hz1.out;omega
  have HFin:=Lib.hid (fun V' (hm : Mod [w.heap.size] V V') => (⟨row_base (row_mod hr7 hm (fun k hk e => hne k (own_ge hr7 k hk) (by simp at e;exact e.symm))) (fun _ _ => Nat.zero_le _),row_base (row_mod hvV hm (fun k hk e => by have h1:=own_ge Hv.out k (by simpa using hk);have:=Hs0.out;simp at e;omega)) (fun _ _ => Nat.zero_le _),row_base (row_mod hr13 hm (fun k hk e => hne k (own_ge hr13 k hk) (by simp at e;exact e.symm))) (fun _ _ => Nat.zero_le _),hbV.trans (hm.toBelow (by simp) hbV.size)⟩ : _ ∧ _ ∧ _ ∧ Below w.heap.size w V'))
  clear hr7 hr13 hvV hzV hb2 hne
  have HbV:=Lib.hid hbV
  clear hbV
  simp only [dS,List.drop_zero]
  go_simp
  clear hp
  clear hs7 hs13
  go_wp2
  refine ⟨rfl,?_⟩
  go_wp2
  refine bodyPost_ret (v:=.agg #[.slice A7 (gensS sl).length c7,.slice A8 L.length c8,.slice A9 B.length c9]) (by unfold results;try go_simp) rfl ?_
  refine ⟨_,_,_,rfl,HFin.out _ ?_⟩
  repeat (refine Mod.setCell ?_ (.inl (by simp)) _)
  exact Mod.refl _ _
set_option maxRecDepth 20000 in
set_option maxHeartbeats 4000000 in
theorem qstate_any (h : RepQ q sl L B w F) (hO : ZOk sl L B) : Calls Tryz.prog 12 #[.pointer (some ⟨q,0,none⟩)] w (StPost sl L B w):=by
 obtain ⟨w0,hw0,hb0,hz0,hs0⟩:=box1 w (.cells #[.slice none 0 0,.slice none 0 0,.slice none 0 0] 26)
 have h0:=h.below hb0
 obtain ⟨vB,FZ,⟨vL,FS,⟨vg,vl,g1,g2,g3,-,-⟩,g5,-,-⟩,k2,-,-⟩:=h0
 obtain ⟨Ag,cg,rfl,hcg,hLg⟩:=row_lies g2
 obtain ⟨Ar,cr,rfl,hcr,hLr⟩:=row_lies g5
 obtain ⟨Ab,cb,rfl,hcb,hLb⟩:=row_lies k2
 have hnr:=row_none g5;have hnb:=row_none k2
 have hlg : (gensS sl).length ≤ 60:=by unfold gensS;rw [List.length_map];exact hO.w.ok.1
 have e1 : sl.length = (gensS sl).length:=by unfold gensS;rw [List.length_map]
 rw [e1] at g1 hcg
 have hll:=hO.w.len;have hbl:=hO.len
 have HC1:=Lib.hid (fun V (hb : Below w0.heap.size w0 V) => copyInt_any Ag cg (gensS sl) V.heap.size V hlg ((hLg.below hb).mono hb.size) (Nat.le_refl _))
 have HC2:=Lib.hid (fun V (hb : Below w0.heap.size w0 V) => copyR_any Ar cr L V (by omega) ((hLr.below hb).mono hb.size) (fun e => (hnr e).1) (fun e => (hnr e).2))
 have HC3:=Lib.hid (fun V (hb : Below w0.heap.size w0 V) => copyB_any Ab cb B V (by omega) ((hLb.below hb).mono hb.size) (fun e => (hnb e).1) (fun e => (hnb e).2))
 obtain ⟨Hb0,Hz0,Hs0,Hg1⟩:=hid4 hb0 hz0 hs0 g1
 clear hb0 hz0 hs0 g1
 clear g2 g3 g5 k2 hLg hLr hLb hnr hnb e1 hcg hcr hcb
 go_enter Tryz.func12,Tryz.ntmps12
 go_wp2_with fail
 clear hw0
 refine wp_planK [5,10,15] 16 [0,6,11] [some 3,some 4,some 5,some 6,some 7,some 8,some 9,some 10,some 11,some 12,some 13,some 14,some 15,some 16,some 17,some 18,some 19,none] [[],[0],[0,1],[0,1,2],[0,1,2,3],[0,1,2,3,4],[],[6],[6,7],[6,7,8],[0,1,2,3,4,5,6,7,8,9],[],[11],[11,12],[11,12,13],[0,1,2,3,4,5,6,7,8,9,10,11,12,13,14],[0,1,2,3,4,5,6,7,8,9,10,11,12,13,14,15],[0,1,2,3,4,5,6,7,8,9,10,11,12,13,14,15,16]] [0,1,2,3,4,5,6,7,8,9,10,11,12,13,14,15] (fun Lf σ W => IRs w0 [(5,3,1,(gensS sl).length,ints (gensS sl)),(10,69,11,L.length,L.flatMap rwC),(15,84,4,B.length,B.flatMap bdC)] Lf σ W) mixed rfl (by kernel_rfl) (by decide) (by decide) (by decide) (IRs.start below_drew) rfl ?_
 iterate 16 apply Exists.intro
 refine ⟨rfl,?_,?_⟩
 ·simp only [tS,List.take_zero,AllFrom.cons_eq,AllFrom.nil_eq,OpGoalK]
  refine ⟨?_,?_,?_,?_,?_,?_,?_,?_,?_,?_,?_,?_,?_,?_,?_,?_,trivial⟩
  all_goals (intro L' σ V h1 h2 h3 hI hp;have HA1:=Lib.hid h1;have HA2:=Lib.hid h2;have HA3:=Lib.hid h3;clear h1 h2 h3;(try simp only [gZ,gS,preK_cons,preK_nil] at hp);(try simp only [List.mem_cons,List.not_mem_nil,or_false,eq_self,Nat.reduceEqDiff,Nat.reduceAdd,Nat.zero_add,false_or,true_or,true_and,and_true] at hp);(first | (have hq : True:=hp;clear hq hp) | skip);have HI:=Lib.hid hI;clear hI)
  all_goals (
   have hqV:=(Mod.ofBelow HI.out.b).keep Hg1.out (by simp)
   have z0:=blk_cell hqV 0
   have z1:=blk_cell hqV 1
   have z2:=blk_cell hqV 2
   have z3:=blk_cell hqV 3
   simp only [eA,eZ,eS] at z0 z1 z2 z3
   have zl:=blk_lt hqV
   clear hqV)
  iterate 5 · (go_simp;exact ⟨.inr rfl,HI.out.read (by simp) _⟩)
  ·go_simp
   refine (HC1.out _ HI.out.b).mono ?_
   rintro e V' ⟨v,rfl,hv,hb⟩
   exact ⟨_,rfl,PostK.mk (c:=undef) (.inl (by decide)) (HI.out.got hb (fun x hx e => by
    simp only [List.mem_cons,List.not_mem_nil,or_false] at hx
    rcases hx with rfl | rfl | rfl <;> first | exact hv | (exfalso;revert e;simp)))⟩
  iterate 4 · (go_simp;exact ⟨.inr rfl,HI.out.read (by simp) _⟩)
  ·go_simp
   refine (HC2.out _ HI.out.b).mono ?_
   rintro e V' ⟨v,rfl,hv,hb⟩
   exact ⟨_,rfl,PostK.mk (c:=undef) (.inl (by decide)) (HI.out.got hb (fun x hx e => by
    simp only [List.mem_cons,List.not_mem_nil,or_false] at hx
    rcases hx with rfl | rfl | rfl <;> first | exact hv | (exfalso;revert e;simp)))⟩
  iterate 4 · (go_simp;exact ⟨.inr rfl,HI.out.read (by simp) _⟩)
  ·go_simp
   refine (HC3.out _ HI.out.b).mono ?_
   rintro e V' ⟨v,rfl,hv,hb⟩
   exact ⟨_,rfl,PostK.mk (c:=undef) (.inl (by decide)) (HI.out.got hb (fun x hx e => by
    simp only [List.mem_cons,List.not_mem_nil,or_false] at hx
    rcases hx with rfl | rfl | rfl <;> first | exact hv | (exfalso;revert e;simp)))⟩
 ·intro L' σ V h1 hI hp
  have hr5:=hI.r _ (List.mem_cons_self ..) (h1 5 (by decide))
  have hr10:=hI.r _ (List.mem_cons_of_mem _ (List.mem_cons_self ..)) (h1 10 (by decide))
  have hr15:=hI.r _ (List.mem_cons_of_mem _ (List.mem_cons_of_mem _ (List.mem_cons_self ..))) (h1 15 (by decide))
  have hb2:=hI.b
  clear h1 hI
  simp only [preK_cons,preK_nil,gZ,gS] at hp;simp only [List.mem_cons,List.not_mem_nil,or_false,eq_self,Nat.reduceEqDiff,false_or,true_or,true_and,and_true] at hp
  simp only at hr5 hr10 hr15
  have hzV:=(Mod.ofBelow hb2).keep Hz0.out (by simp)
  have hbV:=Hb0.out.trans (hb2.mono Hb0.out.size)
  obtain ⟨c0,c1,c2,cl⟩:=cells3 hzV
  have f0:=blk_free hzV 0
  have f1:=blk_free hzV 1
  have f2:=blk_free hzV 2
  generalize hs5 : σ 5 = v5 at *
  generalize hs10 : σ 10 = v10 at *
  generalize hs15 : σ 15 = v15 at *
  obtain ⟨A7,c7,rfl,-,-⟩:=row_slice hr5
  obtain ⟨A8,c8,rfl,-,-⟩:=row_slice hr10
  obtain ⟨A9,c9,rfl,-,-⟩:=row_slice hr15
  have hne : ∀ x : Nat,w0.heap.size ≤ x → w.heap.size ≠ x:=fun x hx => by have:=Hs0.out;omega
  have HFin:=Lib.hid (fun V' (hm : Mod [w.heap.size] V V') => (⟨row_base (row_mod hr5 hm (fun k hk e => hne k (own_ge hr5 k hk) (by simp at e;exact e.symm))) (fun _ _ => Nat.zero_le _),row_base (row_mod hr10 hm (fun k hk e => hne k (own_ge hr10 k hk) (by simp at e;exact e.symm))) (fun _ _ => Nat.zero_le _),row_base (row_mod hr15 hm (fun k hk e => hne k (own_ge hr15 k hk) (by simp at e;exact e.symm))) (fun _ _ => Nat.zero_le _),hbV.trans (hm.toBelow (by simp) hbV.size)⟩ : _ ∧ _ ∧ _ ∧ Below w.heap.size w V'))
  clear hr5 hr10 hr15 hzV hb2 hne hbV
  simp only [dS,List.drop_zero]
  go_simp
  clear hp
  clear hs5 hs10 hs15
  go_wp2
  refine ⟨rfl,?_⟩
  go_wp2
  refine bodyPost_ret (v:=.agg #[.slice A7 (gensS sl).length c7,.slice A8 L.length c8,.slice A9 B.length c9]) (by unfold results;try go_simp) rfl ?_
  refine ⟨_,_,_,rfl,HFin.out _ ?_⟩
  repeat (refine Mod.setCell ?_ (.inl (by simp)) _)
  exact Mod.refl _ _
end
end Go.Proofs.YtehjfmjibiafdaaGreat
