import Derived.Test.YtfdillpofciicaaGreatDoorTextPrintsJ19
import Derived.Shelf.SlIterI.Collect
/- A part of the proof that TextPrints returns true. -/
namespace Go.Proofs.YtfdillpofciicaaGreatDoor
open Go Go.RowKit
attribute [local go_sem] AllFrom.cons_eq AllFrom.nil_eq putF_nil putF_cons wantedL_none wantedL_some OpGoalQ YieldsR preF_nil preF_cons
set_option maxRecDepth 20000 in
set_option maxHeartbeats 1000000 in
theorem eqBond_any (A : Option Addr) (c : Nat) (A' : Option Addr) (c' : Nat) (l l' : List Bd) (w : World) (hl : l.length ≤ 9223372036854775807) (hl' : l'.length ≤ 9223372036854775807)
  (hA : Lies w w.heap.size A (l.flatMap bdC)) (hA' : Lies w w.heap.size A' (l'.flatMap bdC)) :
  Calls Tryz.prog 28 #[.slice A l.length c,.slice A' l'.length c'] w fun e w' => e = .returned (.bool (eqB l l')) ∧ Below w.heap.size w w':=by
 by_cases hlen : l.length = l'.length
 ·have hb : ((l.length : Int) != (l'.length : Int)) = false:=by simp [hlen]
  have Hlen:=Lib.hid hlen
  clear hlen
  go_enter Tryz.func28,Tryz.ntmps28
  go_wp2
  go_loopw [14] (fun i wr => ∃ k : Nat,k ≤ l.length ∧ i = .int .i64 k ∧ l.take k = l'.take k ∧ Below w.heap.size w wr) (fun i _ => l.length - (Go.RowKit.intOf i).toNat)
  case atStart => exact ⟨0,by omega,rfl,rfl,Below.refl _ _⟩
  case round =>
   obtain ⟨k,hk,rfl,heq,hbel⟩:=hrel
   have Heq:=Lib.hid heq
   clear heq hb
   have hsz:=hbel.size
   by_cases hlt : k < l.length
   ·have hlt' : k < l'.length:=by rw [← Hlen.out];exact hlt
    obtain ⟨ab,ao,rfl,hal,hc⟩:=hA.rec_at bdC_len (by omega) hlt
    obtain ⟨bb,bo,rfl,hbl,hc'⟩:=hA'.rec_at bdC_len (by omega) hlt'
    have hs:=take_succ_get l k hlt
    have hs':=take_succ_get l' k hlt'
    have hne : l[k] ≠ l'[k] → l ≠ l':=by
     intro h e;subst e;exact h rfl
    have hc1 : ∀ j u,(bdC l[k])[j]? = some u → wr.cell? ((⟨ab,ao + k * 4,none⟩ : Addr).add j) = some u:=fun j u hu => by
     have:=(hbel.cell (p:=⟨ab,ao + k * 4 + j,none⟩) hal).trans (hc j u hu)
     rw [Addr.add_mid];exact this
    have hc2 : ∀ j u,(bdC l'[k])[j]? = some u → wr.cell? ((⟨bb,bo + k * 4,none⟩ : Addr).add j) = some u:=fun j u hu => by
     have:=(hbel.cell (p:=⟨bb,bo + k * 4 + j,none⟩) hbl).trans (hc' j u hu)
     rw [Addr.add_mid];exact this
    have hal2 : ab < wr.heap.size:=by omega
    have hbl2 : bb < wr.heap.size:=by omega
    have hin : (k : Int) < (l'.length : Int):=by omega
    generalize l[k] = x at *
    generalize l'[k] = y at *
    obtain ⟨Hs,Hs',Hne,Hc1,Hc2,Hbel⟩:=hid6 hs hs' hne hc1 hc2 hbel
    have he:=fun w => neqBond w x y
    clear hs hs' hne hc hc' hA hA' hc1 hc2 hbel
    generalize hr : eqB x y = r at *
    have Hr:=Lib.hid hr
    clear hr
    have hDa : ∀ u ∈ bdC x,u.oneCell' = true:=bdC_one x
    have HDa:=Lib.hid hDa
    clear hDa
    go_wp2_with (first | (refine wpList_load_flat rfl 60 (.tmp 17) rfl _ rfl (bdC x) _ Tryz.underlying60 rfl (sz_Bond _) Hc1.out ?_) | (refine wpList_store_new rfl 60 (.tmp 6) (.tmp 18) rfl wr (ints [0,0,0,0]) (bdC x) 60 rfl rfl rfl (sz_Bond _) HDa.out ?_))
    have hnew : ∀ j u,(bdC x)[j]? = some u → (wr.alloc (.cells (bdC x).toArray 60)).drew.cell? ((⟨wr.heap.size,0,none⟩ : Addr).add j) = some u:=fun j u hu => new_rec rfl (by simp) j u hu
    have hold : ∀ j u,(bdC y)[j]? = some u → (wr.alloc (.cells (bdC x).toArray 60)).drew.cell? ((⟨bb,bo + k * 4,none⟩ : Addr).add j) = some u:=fun j u hu => by
     have:=Hc2.out j u hu
     rw [Addr.add_mid] at this ⊢
     exact (((Below.refl wr.heap.size wr).alloc (Nat.le_refl _) _).cell (p:=⟨bb,bo + k * 4 + j,none⟩) hbl2).trans this
    obtain ⟨Hnew,Hold⟩:=hid2 hnew hold
    clear hnew hold
    refine wp_planR 6 [1,2] [some 19,some 20,some 21,some 22,some 23,some 24] [[],[],[],[1,2],[1,2,3],[0,1,2,3,4]] [0,1,2,3,4,5] mixed rfl (by kernel_rfl) (by decide) (by decide) rfl ?_
    iterate 6 apply Exists.intro
    refine ⟨rfl,?_,?_⟩
    ·simp only [tS,List.take_zero,AllFrom.cons_eq,AllFrom.nil_eq,OpGoalQ]
     refine ⟨?_,?_,?_,?_,?_,?_,trivial⟩
     all_goals (intro σ hp;(try simp only [gZ,gS,mC,mN,preF_cons,preF_nil,isV,and_true] at hp);(first | (have hq : True:=hp;clear hq hp) | skip))
     ·(simp only [wantedL_none,↓reduceIte,gZ,gS];refine yr_load 60 (.tmp 6) (by rfl) ⟨wr.heap.size,0,none⟩ ?_ (bdC x) _ Tryz.underlying60 rfl (sz_Bond _) Hnew.out ?_;(· go_simp);(· exact ⟨rfl,rfl⟩))
     iterate 3 · (go_simp;exact ⟨rfl,rfl⟩)
     ·(simp only [wantedL_none,↓reduceIte,gZ,gS];refine yr_load 60 (.tmp 22) (by rfl) ⟨bb,bo + k * 4,none⟩ ?_ (bdC y) _ Tryz.underlying60 rfl (sz_Bond _) Hold.out ?_;(· go_simp);(· exact ⟨rfl,rfl⟩))
     ·(go_simp;exact ⟨rfl,rfl⟩)
    intro σ hp
    simp only [gZ,gS,mC,mN,preF_cons,preF_nil,isV,and_true] at hp
    simp only [dS,List.drop_zero]
    go_simp
    clear hp
    cases r with
    | true =>
     have hxy : x = y:=by simpa [eqB] using Hr.out
     have Hxy:=Lib.hid hxy
     clear hxy
     go_simp
     refine ⟨rfl,?_⟩
     go_wp2
     go_roundw
     case rel => exact ⟨k + 1,by omega,by go_num,by rw [Hs.out,Hs'.out,Heq.out,Hxy.out],(Hbel.out.alloc hsz _).drew⟩
     case measure => simp [Go.RowKit.intOf];omega
    | false =>
     have hxy : x ≠ y:=by intro e;have:=Hr.out;rw [e,eqB_self] at this;cases this
     have Hf:=Lib.hid (eqB_ne (Hne.out hxy))
     clear hxy
     go_simp
     refine ⟨rfl,?_⟩
     go_wp2
     go_ret
     exact ⟨by rw [Hf.out];rfl,(Hbel.out.alloc hsz _).drew⟩
   ·have he : l = l':=by
     have:=Heq.out
     rwa [List.take_of_length_le (by omega),List.take_of_length_le (by have:=Hlen.out;omega)] at this
    have Hf : Hid (eqB l l' = true):=by rw [he];exact eqB_self _
    clear he
    go_wp2
    go_ret
    exact ⟨by rw [Hf.out];rfl,hbel⟩
 ·have hb : ((l.length : Int) != (l'.length : Int)) = true:=by simp;omega
  have Hf:=Lib.hid (eqB_ne (fun e : l = l' => hlen (congrArg List.length e)))
  clear hlen
  go_enter Tryz.func28,Tryz.ntmps28
  go_wp2
  go_ret
  exact ⟨by rw [Hf.out];rfl,Below.refl _ _⟩
end Go.Proofs.YtfdillpofciicaaGreatDoor
namespace Go.Proofs.YtfdillpofciicaaGreatDoor
open Go Go.RowKit
attribute [local go_sem] AllFrom.cons_eq AllFrom.nil_eq putF_nil putF_cons wantedL_none wantedL_some OpGoalT OpGoalV OpGoalQ OpGoalA OpGoalK YieldsR preF_nil preF_cons
section
variable {vg vl vr : Value} {Lo : Nat} {Z : List Nat} {f q : Nat} {B B' : List Bd} {w : World}
theorem radopt_any (hO : FamOk B) (hl : B.length ≤ 1200000000000) {F : List Nat} (h : RepB vg vl vr w q B F) (s g t u : Int) : Calls Tryz.prog 68 #[.pointer (some ⟨q,0,none⟩),.agg #[.int .i64 s,.int .i64 g],.agg #[.int .i64 t,.int .i64 u]] w (RFRet vg vl vr (adoB B (s,g) (t,u)) (.int .i64 (adoE B (s,g) (t,u))) q F w):=by
 by_cases e : (s,g) = (t,u)
 ·obtain ⟨rfl,rfl⟩:=Prod.mk.inj e
  rw [show adoB B (s,g) (s,g) = B by unfold adoB;rw [if_pos (Up.refl _)],show adoE B (s,g) (s,g) = 8 by unfold adoE;rw [if_pos (Up.refl _)]]
  exact radopt_same h s g
 ·exact radopt_diff hO hl h s g t u e
end
end Go.Proofs.YtfdillpofciicaaGreatDoor
namespace Go.Proofs.YtfdillpofciicaaGreatDoor
open Go Go.RowKit Go.Maps Go.Sort
attribute [local go_sem] AllFrom.cons_eq AllFrom.nil_eq putF_nil putF_cons wantedL_none wantedL_some OpGoalT OpGoalV OpGoalQ OpGoalA OpGoalK YieldsR preF_nil preF_cons
theorem kids_sorted {B : List Bd} (h : SortB B) (x : Hd) : (kidsB B x).Pairwise (fun a b => ltH a b = true):=by
 unfold kidsB
 rw [List.pairwise_map]
 exact h.sublist List.filter_sublist
theorem kids_eq {B C : List Bd} {x : Hd} {l : List Hd} (h : SortB B) (hC : C.Perm B) (hp : l.Perm (kidsB C x)) (hs : l.Pairwise (fun a b => ltH b a = false)) : l = kidsB B x:=by
 have hk:=kids_sorted h x
 have hp2 : l.Perm (kidsB B x):=hp.trans ((hC.filter _).map _)
 have hne : l.Pairwise (fun a b => a ≠ b):=(List.Perm.pairwise_iff (fun h => Ne.symm h) hp2).2 (hk.imp fun h => ltH_ne h)
 have hl : l.Pairwise (fun a b => ltH a b = true):=(hs.and hne).imp (by
  rintro a b ⟨h1,h2⟩
  cases e : ltH a b with
  | true => rfl
  | false => exact absurd (ltH_tri e h1) h2)
 refine List.Perm.eq_of_pairwise (le:=fun a b : Hd => ltH a b = true) (fun a b ha hb h1 h2 => ?_) hl hk hp2
 rw [ltH_asymm h1] at h2;cases h2
theorem kids_app (C D : List Bd) (x : Hd) : kidsB (C ++ D) x = kidsB C x ++ kidsB D x:=by unfold kidsB;rw [List.filter_append,List.map_append]
theorem kids_one (b : Bd) (x : Hd) : kidsB [b] x = if eqB b.2 x = true then [b.1] else []:=by
 unfold kidsB eqB
 by_cases e : b.2 = x <;> simp [e]
theorem kids_len (B : List Bd) (x : Hd) : (kidsB B x).length ≤ B.length:=by
 unfold kidsB
 rw [List.length_map]
 exact List.length_filter_le _ _
section
variable {w : World} {f : Nat} {B : List Bd} {F : List Nat}
set_option maxRecDepth 20000 in
set_option maxHeartbeats 4000000 in
theorem fkids_any (h : RepF w f B F) (hB : B.length ≤ 1200000000000) (s g : Int) : Calls Tryz.prog 149 #[.pointer (some ⟨f,0,none⟩),.agg #[.int .i64 s,.int .i64 g]] w (MadeRecs 47 2 handleC (kidsB B (s,g)) w):=by
 obtain ⟨w0,hw0,hb0,hz0,hs0⟩:=box1 w (.cells #[.int .i64 s,.int .i64 g] 47)
 obtain ⟨ho,hr,m,l,h1,h2,h3,hF,h5⟩:=h.below hb0
 obtain ⟨o,hrun,hR⟩:=h2.range Tryz.underlying167
 obtain ⟨w1,hw1,hb1,-,hs1⟩:=box1 w0 o
 rw [hw1] at hR
 have e0:=blk_cell h1 0
 simp only [eA,eZ] at e0
 have hfl:=blk_lt h1
 have hll : l.length ≤ 1200000000000:=by rw [h3.length_eq];exact hB
 obtain ⟨HR,Hb0,Hb1,Hz0,Hs0,Hs1,Ho,H3,Hll⟩:=hid9 hR hb0 hb1 hz0 hs0 hs1 ho h3 hll
 clear hR hb0 hb1 hz0 hs0 hs1 ho h3 hll
 clear h h1 h2 hr hF h5 hB
 go_enter Tryz.func149,Tryz.ntmps149
 go_wp2_with fail
 clear hrun hw1 hw0 e0 hfl
 go_loopw [5,14] (fun v _ wr => ∃ (D ts : List Bd),RangeAt Tryz.prog 47 wr m w0.heap.size (l.map bdPr) (ts.map bdPr) ∧ (D ++ ts).Perm l ∧ wr.ownsRow w0.heap.size 47 2 v (kidsB D (s,g)).length ((kidsB D (s,g)).flatMap handleC) ∧ Below w0.heap.size w0 wr) (fun _ _ wr => wr.rangeLeft m w0.heap.size)
 case atStart => exact ⟨[],l,HR.out,.refl _,⟨rfl,.inl ⟨rfl,rfl⟩⟩,Hb1.out⟩
 case round =>
  obtain ⟨D,ts,hR,hp,hown,hB⟩:=hrel
  obtain ⟨A,cap,rfl,-,-⟩:=row_slice hown
  have hlen : D.length + ts.length = l.length:=by rw [← List.length_append];exact hp.length_eq
  have hkl:=kids_len D (s,g)
  have hzr:=(Mod.ofBelow hB).keep Hz0.out (by simp)
  by_cases hts : ts = []
  ·subst hts
   have hov:=fun ty => RangeAt.over (P:=Tryz.prog) (by simpa using hR) ty
   simp only [List.append_nil] at hp
   have H1:=Lib.hid (sortHandles_any hown (by have:=Hll.out;simp at hlen;omega))
   obtain ⟨Hp,HB,Hown⟩:=hid3 hp hB hown
   clear hp hB hown
   clear hR hlen hzr
   go_wp2_with fail
   refine H1.out.mono ?_
   rintro e w2 ⟨rfl,l',hp',hs',hown',hmod⟩
   have hl' : l' = kidsB B (s,g):=kids_eq Ho.out.so (Hp.out.trans H3.out) hp' (hs'.imp fun {x y} h => by
    have h : ltOf cmpH y x = false:=h
    rw [ltHd_eq] at h;exact h)
   have hB2 : Below w0.heap.size w0 w2:=HB.out.trans (hmod.toBelow (fun x hx => own_ge Hown.out x (by simpa using hx)) HB.out.size)
   rw [hl'] at hown'
   have hown2:=row_base hown' (B':=w.heap.size) (fun k hk => by have:=own_ge hown' k hk;have:=Hs0.out;omega)
   have hBw:=Hb0.out.trans (hB2.mono Hb0.out.size)
   obtain ⟨HBw,HO2⟩:=hid2 hBw hown2
   clear hBw hown2
   clear hp' hs' hmod hl' hown' hB2
   go_wp2
   refine bodyPost_ret (v:=.slice A (kidsB D (s,g)).length cap) (by unfold results;try go_simp) rfl ?_
   exact ⟨_,rfl,HO2.out,HBw.out⟩
  ·obtain ⟨t1,x,t2,w2,rfl,hn,hen,hx,hR2,hm2,hs2⟩:=hR.nextE hts
   have hmeas:=hR.left_eq
   obtain ⟨⟨c0,c1⟩,p0,p1⟩:=x
   have hne:=own_ne_range hown hR
   have hrl:=hR.lt
   have hown2:=row_mod hown hm2 (fun k hk e => by
    have hk' : k = w0.heap.size:=by simpa using e
    subst hk';exact hne.1 (by rw [hk];simp))
   have hB2 : Below w0.heap.size w0 w2:=hB.trans (hm2.toBelow (by simp) hB.size)
   simp only [bdPr,hdV,handleC] at hn hen
   have hDl : (kidsB D (s,g)).length < 1200000000000:=by have:=Hll.out;simp at hlen;omega
   have hzr2:=hm2.keep hzr (by have:=Hs0.out;simp;omega)
   have hb24 : Below w2.heap.size w2 ((w2.alloc (.cells #[.int .i64 c0,.int .i64 c1] 47)).alloc (.cells #[.int .i64 p0,.int .i64 p1] 47)):=((Below.refl _ _).alloc (Nat.le_refl _) _).alloc (by simp) _
   have hB4:=hB2.trans (hb24.mono hB2.size)
   have hown4:=row_mod hown2 (Mod.ofBelow hb24) (by simp)
   have hR4:=hR2.mod (Mod.ofBelow hb24) (by simp) (by simp)
   have heq:=fun w => eqlHandle w p0 p1 s g
   have hka:=kids_app D [((c0,c1),(p0,p1))] (s,g)
   rw [kids_one] at hka
   simp only at hka
   obtain ⟨q0,q1,ql⟩:=cells2 hzr2
   have HR:=Lib.hid hR;have Hp:=Lib.hid hp;have Hown:=Lib.hid hown;have HB:=Lib.hid hB;have HR2:=Lib.hid hR2;have Hm2:=Lib.hid hm2;have Hs2:=Lib.hid hs2;have Hmeas:=Lib.hid hmeas;have HNe:=Lib.hid hne;have Hown2:=Lib.hid hown2;have HB2:=Lib.hid hB2;have Hx:=Lib.hid hx;have HDl:=Lib.hid hDl;have HR4:=Lib.hid hR4;have Hown4:=Lib.hid hown4;have HB4:=Lib.hid hB4;have Hka:=Lib.hid hka;have HKl:=Lib.hid hkl
   clear hR hp hown hB hR2 hm2 hs2 hmeas hne hown2 hB2 hx hDl hR4 hown4 hB4 hka hkl
   clear hlen hzr hb24 hzr2
   cases hr : eqB (p0,p1) (s,g) with
   | false =>
    rw [hr] at heq
    have Hr:=Lib.hid hr
    clear hr
    go_wp2_with fail
    go_roundw
    case rel =>
     refine ⟨D ++ [((c0,c1),(p0,p1))],t1 ++ t2,HR4.out,(mid_perm D t1 t2 _).symm.trans Hp.out,?_,HB4.out⟩
     rw [Hka.out,if_neg (by rw [Hr.out];simp),List.append_nil]
     exact Hown4.out
    case measure => rw [HR4.out.left_eq,Hmeas.out];simp
   | true =>
    rw [hr] at heq
    have Hr:=Lib.hid hr
    clear hr
    go_wp2_with (at_builtin;refine app_handleG rfl _ _ rfl w0.heap.size (.slice A (kidsB D (s,g)).length cap) (kidsB D (s,g)) (c0,c1) ⟨w2.heap.size + 2,0,none⟩ 1 rfl (Hown4.out.alloc _) rfl (new_rec (by simp) rfl) (by have:=HDl.out;omega) (by have:=HB2.out.size;simp;omega) ?_;intro v' w5 hown5 hg5)
    go_roundw
    case rel =>
     refine ⟨D ++ [((c0,c1),(p0,p1))],t1 ++ t2,?_,(mid_perm D t1 t2 _).symm.trans Hp.out,?_,?_⟩
     ·exact (HR4.out.mod ((Mod.refl [] _).alloc _) (by simp) (by simp)).mod (grown_mod hg5) HNe.out.2 HNe.out.1
     ·rw [Hka.out,if_pos Hr.out];exact hown5
     ·exact (HB4.out.alloc HB4.out.size _).trans ((Below.refl _ _).grown hg5 (by have:=HB2.out.size;simp;omega) (own_ge Hown.out))
    case measure =>
     have h3:=(HR4.out.mod ((Mod.refl [] _).alloc _) (by simp) (by simp)).mod (grown_mod hg5) HNe.out.2 HNe.out.1
     rw [h3.left_eq,Hmeas.out];simp
end
end Go.Proofs.YtfdillpofciicaaGreatDoor
namespace Go.Proofs.YtfdillpofciicaaGreatDoor
open Go Go.RowKit Go.Maps
attribute [local go_sem] AllFrom.cons_eq AllFrom.nil_eq putF_nil putF_cons wantedL_none wantedL_some OpGoalT OpGoalV OpGoalQ OpGoalA OpGoalK YieldsR preF_nil preF_cons
structure IPuH (w0 : World) (base : Nat) (v : Value) (M : List Hd) (x : Hd) (L : Nat → Bool) (σ : Nat → Value) (V : World) : Prop where
 b : L 3 = false → Below w0.heap.size w0 V
 o : L 2 = true → L 3 = false → oneR w0.heap.size (handleC x).toArray 47 (σ 2) V
 a : L 3 = true → (∃ V0,Below w0.heap.size w0 V0 ∧ V0.grownBy V v.ownBlock) ∧ V.ownsRow base 47 2 (σ 3) (M ++ [x]).length ((M ++ [x]).flatMap handleC)
section
variable {w0 V V' : World} {base : Nat} {v : Value} {M : List Hd} {x : Hd} {L : Nat → Bool} {σ : Nat → Value}
theorem IPuH.start (h : Below w0.heap.size w0 V) : IPuH w0 base v M x (fun _ => false) σ V:=⟨fun _ => h,fun e => (by cases e),fun e => (by cases e)⟩
end
section
variable {f : Nat} {B : List Bd} {F : List Nat}
set_option maxRecDepth 20000 in
set_option maxHeartbeats 8000000 in
theorem funder_any (hl : B.length ≤ 1200000000000) : ∀ (n : Nat) (s g : Int) (w : World),Low B n (s,g) → RepF w f B F → Calls Tryz.prog 97 #[.pointer (some ⟨f,0,none⟩),.agg #[.int .i64 s,.int .i64 g]] w (MadeRecs 47 2 handleC (underN B n (s,g)) w):=by
 intro n
 induction n with
 | zero => intro s g w hl0;exact hl0.elim
 | succ n ih =>
  intro s g w hlow h
  obtain ⟨w0,hw0,hb0,hz0,hs0⟩:=box1 w (.cells #[.int .i64 s,.int .i64 g] 47)
  have h0:=h.below hb0
  have hO:=h.ok
  have H1:=Lib.hid (fkids_any h0 hl s g)
  have hlen:=underN_len hO hlow
  have hall:=undP_all B n (s,g)
  have hplen:=undP_len B n (kidsB B (s,g))
  rw [hall] at hplen
  obtain ⟨q0,q1,ql⟩:=cells2 hz0
  obtain ⟨HZ0,Hb0,HLB,Hs0,IH,Hlow,Hlen,Hall,Hplen⟩:=hid9 h0 hb0 hl hs0 ih hlow hlen hall hplen
  clear h0 hb0 hl hs0 ih hlow hlen hall hplen
  clear h hz0 hO
  go_enter Tryz.func97,Tryz.ntmps97
  go_wp2_with fail
  clear hw0 q0 q1 ql
  refine H1.out.mono ?_
  rintro e w2 ⟨vk,rfl,hk,hb2⟩
  have h2:=HZ0.out.below hb2
  have hkl : (kidsB B (s,g)).length ≤ 1200000000000:=by
   have h1:=kids_len B (s,g)
   have:=HLB.out
   omega
  have hBw2:=Hb0.out.trans (hb2.mono Hb0.out.size)
  have hkl2 : (kidsB B (s,g)).length ≤ 9223372036854775807:=by omega
  have hlow' : ∀ c ∈ kidsB B (s,g),Low B n c:=Hlow.out
  generalize kidsB B (s,g) = ks at *
  obtain ⟨A,cap,rfl,-,-⟩:=row_slice hk
  obtain ⟨H2,Hk,HBw2,Hlow',HKL⟩:=hid5 h2 hk hBw2 hlow' hkl
  clear h2 hk hBw2 hlow' hkl
  clear hb2 H1
  go_wp2_with fail
  go_loopw [5,12] (fun v i wr => ∃ k : Nat,k ≤ ks.length ∧ i = .int .i64 k ∧ wr.ownsRow w2.heap.size 47 2 v (undP B n ks k).length ((undP B n ks k).flatMap handleC) ∧ Below w2.heap.size w2 wr) (fun _ i _ => ks.length - (Go.RowKit.intOf i).toNat)
  case atStart => exact ⟨0,by omega,rfl,⟨rfl,.inl ⟨rfl,rfl⟩⟩,Below.refl _ _⟩
  case round =>
   obtain ⟨k,hkk,rfl,hown,hbel⟩:=hrel
   have hsz:=hbel.size
   by_cases hlt : k < ks.length
   ·have hro:=row_mod Hk.out (Mod.ofBelow hbel) (by simp)
    obtain ⟨g0,cap0,cur0,hv,-,-,-⟩:=row_some hro (by omega)
    cases hv
    have hpc:=row_piece handleC_len hro hlt 0 (handleC ks[k]) (fun j u hu => by rw [Nat.zero_add];exact hu)
    have hg0:=row_lt hro g0 rfl
    have hki : (k : Int) < (ks.length : Int):=by omega
    have hst:=undP_succ B n ks k hlt
    have hlowx:=Hlow'.out _ (List.getElem_mem hlt)
    have hl1:=Hplen.out (k + 1)
    have hl0:=Hplen.out k
    obtain ⟨A5,cap5,rfl,-,-⟩:=row_slice hown
    rw [hst,List.length_append,List.length_append] at hl1
    generalize undP B n ks k = M at *
    generalize ks[k] = x at *
    obtain ⟨c0,c1⟩:=x
    obtain ⟨w3,hw3,hb3,hz3,hs3⟩:=box1 wr (.cells #[.int .i64 c0,.int .i64 c1] 47)
    have hO3:=hown.alloc (.cells #[.int .i64 c0,.int .i64 c1] 47)
    rw [hw3] at hO3
    have hb03:=hbel.trans (hb3.mono hsz)
    have hvlt : ∀ y,(Value.slice A5 M.length cap5).ownBlock = some y → y < wr.heap.size:=row_lt hown
    have hge:=own_ge hO3
    generalize hvv : Value.slice A5 M.length cap5 = vv at *
    have hnb : wr.heap.size ∉ vv.ownBlock.toList:=fun e => by have:=hvlt _ (by simpa using e);omega
    have hF2 : ∀ y ∈ F,y ∉ vv.ownBlock.toList:=fun y hy e => by
     have h1:=H2.out.lt y hy
     have h2:=hge y (by simpa using e)
     omega
    obtain ⟨HP,Hst,Hlowx,Hl1,Hl0,HO3,Hb03,Hs3,Hz3,Hge,Hnb,HF2,Hvv⟩:=hid13 hpc hst hlowx hl1 hl0 hO3 hb03 hs3 hz3 hge hnb hF2 hvv
    clear hpc hst hlowx hl1 hl0 hO3 hb03 hs3 hz3 hge hnb hF2 hvv
    clear hro hown hbel hb3 hvlt
    go_wp2_with (refine wpList_load_flat rfl 47 (.tmp 14) rfl _ rfl [.int .i64 c0,.int .i64 c1] _ Tryz.underlying47 rfl (by kernel_rfl) HP.out ?_)
    clear hw3
    refine wp_planK [2,3] 6 [4] [some 16,some 17,some 18,some 19,some 20,some 21,some 22,some 23,some 5] [[],[],[1],[0,1,2],[],[],[0,1,2,3,4,5],[0,1,2,3,4,5,6],[0,1,2,3,4,5,6,7]] [0,1,2,3,4,5] (fun Lf σ V => IPuH w3 w2.heap.size vv M (c0,c1) Lf σ V) mixed rfl (by kernel_rfl) (by decide) (by decide) (by decide) (IPuH.start below_drew) rfl ?_
    iterate 6 apply Exists.intro
    refine ⟨rfl,?_,?_⟩
    ·simp only [tS,List.take_zero,AllFrom.cons_eq,AllFrom.nil_eq,OpGoalK]
     refine ⟨?_,?_,?_,?_,?_,?_,trivial⟩
     all_goals (intro L' σ V h1 h2 h3 hI hp;have HA1:=Lib.hid h1;have HA2:=Lib.hid h2;have HA3:=Lib.hid h3;clear h1 h2 h3;(try simp only [gZ,gS,preK_cons,preK_nil] at hp);(try simp only [List.mem_cons,List.not_mem_nil,or_false,eq_self,Nat.reduceEqDiff,Nat.reduceAdd,Nat.zero_add,false_or,true_or,true_and,and_true] at hp);(first | (have hq : True:=hp;clear hq hp) | skip);have HI:=Lib.hid hI;clear hI)
     all_goals (
      have hzV:=HI.out.mod.keep Hz3.out Hnb.out
      have q0:=blk_cell hzV 0
      have q1:=blk_cell hzV 1
      simp only [eA,eZ,eS] at q0 q1
      have ql:=blk_lt hzV
      clear hzV)
     iterate 2 · (go_simp;exact ⟨.inr rfl,HI.out.read (by decide) _⟩)
     ·go_simp
      exact PostK.mk (c:=undef) (.inl (by decide)) (HI.out.oned (HA3.out 3 (by decide)))
     ·simp only [wantedL_none,if_true]
      have hbb:=HI.out.b HA1.out
      have ha:=HI.out.o (HA2.out 2 (by decide)) HA1.out
      have hrw:=row_mod HO3.out (Mod.ofBelow hbb) (by simp)
      obtain ⟨Ha,Hrw⟩:=hid2 ha hrw
      have Hlen2:=Lib.hid (show (M.length + 1) * 16 ≤ 140737488355328 by have:=Hl0.out;have:=Hlen.out;have:=HLB.out;omega)
      have Hbs:=Lib.hid (show w2.heap.size ≤ V.heap.size from Nat.le_trans Hb03.out.size hbb.size)
      clear ha hrw hbb
      refine yr_app (enc:=handleC) (n:=2) (bytes:=16) (.tmp 16) (.tmp 18) 156 47 rfl Tryz.underlying156 info_handle rfl (by omega) (by omega) handleC_one handleC_len w2.heap.size vv M (c0,c1) w3.heap.size (handleC (c0,c1)).toArray 47 (by go_simp) Hrw.out (by go_simp;exact Ha.out) rfl Hlen2.out Hbs.out ?_
      intro v' V' hv hg _
      exact PostK.mk (c:=undef) (.inl (by decide)) (HI.out.apped HA1.out hg hv)
     iterate 2 · (go_simp;exact ⟨.inr rfl,HI.out.read (by decide) _⟩)
    ·intro L' σ V h1 hI hp
     have hA3:=(hI.a (h1 3 (by decide))).2
     have hmV:=hI.mod
     clear h1 hI
     simp only [preK_cons,preK_nil,gZ,gS] at hp;simp only [List.mem_cons,List.not_mem_nil,or_false,eq_self,Nat.reduceEqDiff,false_or,true_or,true_and,and_true] at hp
     have hFV:=(H2.out.below Hb03.out).mod hmV HF2.out
     have H6:=Lib.hid (IH.out c0 c1 V Hlowx.out hFV)
     have hbV : Below w2.heap.size w2 V:=Hb03.out.trans (hmV.toBelow (fun x hx => Hge.out x (by simpa using hx)) Hb03.out.size)
     obtain ⟨HA3,HbV⟩:=hid2 hA3 hbV
     clear hA3 hbV
     clear hmV hFV
     simp only [dS,List.drop_zero]
     go_simp
     clear hp
     generalize σ 3 = v3 at *
     generalize σ 2 = v2 at *
     go_wp2_with fail
     refine H6.out.mono ?_
     rintro e w6 ⟨v6,rfl,hown6,hb6⟩
     have hown56:=row_mod HA3.out (Mod.ofBelow hb6) (by simp)
     have hb06:=HbV.out.trans (hb6.mono HbV.out.size)
     obtain ⟨Hown6,Hb06,Hown56⟩:=hid3 hown6 hb06 hown56
     clear hown6 hb06 hown56
     clear hb6
     go_wp2_with (at_builtin;refine app_list rfl _ _ rfl w2.heap.size V.heap.size v3 _ (M ++ [(c0,c1)]) (underN B n (c0,c1)) rfl Hown56.out rfl Hown6.out (by have:=Hl1.out;have:=Hlen.out;have:=HLB.out;rw [List.length_append];omega) Hb06.out.size ?_;intro v7 w7 hown7 hg7)
     refine ⟨rfl,?_⟩
     go_wp2_with fail
     go_roundw
     case rel => exact ⟨k + 1,by omega,by go_num,by rw [Hst.out];exact hown7,Hb06.out.trans ((Below.refl _ _).grown hg7 Hb06.out.size (own_ge Hown56.out))⟩
     case measure => simp [Go.RowKit.intOf];omega
    all_goals exact undef
   ·obtain rfl : k = ks.length:=by omega
    rw [Hall.out] at hown
    have hBf:=HBw2.out.trans (hbel.mono HBw2.out.size)
    have hown:=row_base hown (B':=w.heap.size) (fun k hk => by have:=own_ge hown k hk;have:=HBw2.out.size;omega)
    obtain ⟨Hown,HBf⟩:=hid2 hown hBf
    clear hown hBf
    clear hbel
    go_wp2
    go_ret
    exact ⟨_,rfl,Hown.out,HBf.out⟩
end
end Go.Proofs.YtfdillpofciicaaGreatDoor
namespace Go.Proofs.YtfdillpofciicaaGreatDoor
open Go Go.RowKit
variable {vB : Value}
attribute [local go_sem] AllFrom.cons_eq AllFrom.nil_eq putF_nil putF_cons wantedL_none wantedL_some OpGoalT OpGoalV OpGoalQ YieldsR preF_nil preF_cons
end Go.Proofs.YtfdillpofciicaaGreatDoor
namespace Go.Proofs.YtfdillpofciicaaGreatDoor
open Go Go.RowKit Go.Shelf Go.Maps Go.Sort
section
variable {w : World} {b : Nat} {l : List (Nat × Nat)}
end
end Go.Proofs.YtfdillpofciicaaGreatDoor
namespace Go.Proofs.YtfdillpofciicaaGreatDoor
open Go Go.RowKit
section
variable {sl : Sl} {L : List Rw} {tb : List (Nat × Nat)} {rw : Nat → List Rw} {pl : List Pl}
end
end Go.Proofs.YtfdillpofciicaaGreatDoor
namespace Go.Proofs.YtfdillpofciicaaGreatDoor
open Go Go.RowKit Go.Shelf Go.Sort
attribute [local go_sem] AllFrom.cons_eq AllFrom.nil_eq putF_nil putF_cons wantedL_none wantedL_some OpGoalT OpGoalV OpGoalQ OpGoalA OpGoalK YieldsR preF_nil preF_cons
section
variable {sl : Sl} {L : List Rw} {tb : List (Nat × Nat)} {rw : Nat → List Rw} {pl : List Pl}
end
end Go.Proofs.YtfdillpofciicaaGreatDoor
namespace Go.Proofs.YtfdillpofciicaaGreatDoor
open Go Go.RowKit
attribute [local go_sem] AllFrom.cons_eq AllFrom.nil_eq putF_nil putF_cons wantedL_none wantedL_some OpGoalT OpGoalV OpGoalQ OpGoalA OpGoalK YieldsR preF_nil preF_cons
end Go.Proofs.YtfdillpofciicaaGreatDoor
namespace Go.Proofs.YtfdillpofciicaaGreatDoor
open Go Go.RowKit
def RepV (z p f : Nat) (sl : Sl) (L : List Rw) (B : List Bd) (w : World) (F : List Nat) : Prop :=
 w.heap[z]? = some (.cells #[.pointer (some ⟨p,0,none⟩),.pointer (some ⟨f,0,none⟩)] 109 (0,0)) ∧
  ∃ FW FF,RepW w p sl L FW ∧ RepF w f B FF ∧ F = z :: (FW ++ FF) ∧ z ∉ FW ∧ z ∉ FF ∧ ∀ y ∈ FW,y ∉ FF
section
variable {z p f : Nat} {sl sl' : Sl} {L L' : List Rw} {B B' : List Bd} {w w' : World} {F G : List Nat}
theorem RepV.mod (h : RepV z p f sl L B w F) (hm : Mod G w w') (hd : ∀ y ∈ F,y ∉ G) : RepV z p f sl L B w' F:=by
 obtain ⟨h1,FW,FF,h2,h3,rfl,h4,h5,h6⟩:=h
 exact ⟨hm.keep h1 (hd z (by simp)),FW,FF,h2.mod hm (fun y hy => hd y (by simp [hy])),h3.mod hm (fun y hy => hd y (by simp [hy])),rfl,h4,h5,h6⟩
theorem RepV.below (h : RepV z p f sl L B w F) (hb : Below w.heap.size w w') : RepV z p f sl L B w' F:=h.mod (Mod.ofBelow hb) (by simp)
theorem RepV.lt (h : RepV z p f sl L B w F) : ∀ y ∈ F,y < w.heap.size:=by
 obtain ⟨h1,FW,FF,h2,h3,rfl,-⟩:=h
 intro y hy
 rcases List.mem_cons.1 hy with rfl | hy
 ·exact blk_lt h1
 ·rcases List.mem_append.1 hy with hy | hy
  ·exact h2.lt y hy
  ·exact h3.lt y hy
theorem own_V (z p f : Nat) (sl : Sl) (L : List Rw) (B : List Bd) : Own (RepV z p f sl L B):=⟨fun h hm hd => h.mod hm hd,fun h => h.lt⟩
theorem RepV.w_ (h : RepV z p f sl L B w F) : ∃ FW,RepW w p sl L FW:=by obtain ⟨-,FW,FF,h2,-⟩:=h;exact ⟨FW,h2⟩
theorem RepV.f_ (h : RepV z p f sl L B w F) : ∃ FF,RepF w f B FF:=by obtain ⟨-,FW,FF,-,h3,-⟩:=h;exact ⟨FF,h3⟩
theorem RepV.slots (h : RepV z p f sl L B w F) : ∃ ps FS,w.cell? ⟨p,0,none⟩ = some (.pointer (some ⟨ps,0,none⟩)) ∧ p < w.heap.size ∧ RepS w ps sl FS:=by
 obtain ⟨FW,h2⟩:=h.w_
 obtain ⟨ps,mt,mp,tb,rw_,pl,FS,Fs,c,h3,-,-,-⟩:=h2
 have e:=blk_cell h3.blk 0
 simp only [eA,eZ] at e
 exact ⟨ps,FS,e,blk_lt h3.blk,h3.sl⟩
theorem RepV.cells (h : RepV z p f sl L B w F) : w.cell? ⟨z,0,none⟩ = some (.pointer (some ⟨p,0,none⟩)) ∧ w.cell? ⟨z,1,none⟩ = some (.pointer (some ⟨f,0,none⟩)) ∧ z < w.heap.size:=by
 refine ⟨?_,?_,blk_lt h.1⟩
 ·rw [blk_cell h.1];rfl
 ·rw [blk_cell h.1];rfl
def VRet (z p f : Nat) (sl : Sl) (L : List Rw) (B : List Bd) (F : List Nat) (w : World) (r : Value) (e : Ending) (w' : World) : Prop:=e = .returned r ∧ OwnPost (RepV z p f sl L B) F w w'
theorem RepV.turnW (h : RepV z p f sl L B w F) : ∃ FW,RepW w p sl L FW ∧ ∀ w' sl' L' F',RepW w' p sl' L' F' → Turns w FW F' w' → OwnPost (RepV z p f sl' L' B) F w w':=by
 have hlt:=h.lt
 obtain ⟨h1,FW,FF,h2,h3,rfl,h4,h5,h6⟩:=h
 refine ⟨FW,h2,fun w' sl' L' F' a b => ⟨z :: (F' ++ FF),⟨b.mod.keep h1 h4,F',FF,a,h3.mod b.mod (fun y hy e => h6 y e hy),rfl,?_,h5,?_⟩,b.mod.mono (by intro y hy;simp [hy]),?_⟩⟩
 ·intro e
  rcases b.new z e with e | e
  ·exact h4 e
  ·have:=hlt z (by simp);omega
 ·intro y hy e
  rcases b.new y hy with e2 | e2
  ·exact h6 y e2 e
  ·have:=hlt y (by simp [e]);omega
 ·intro y hy
  rcases List.mem_cons.1 hy with rfl | hy
  ·exact .inl (by simp)
  ·rcases List.mem_append.1 hy with hy | hy
   ·rcases b.new y hy with e2 | e2
    ·exact .inl (by simp [e2])
    ·exact .inr e2
   ·exact .inl (by simp [hy])
theorem RepV.turnF (h : RepV z p f sl L B w F) : ∃ FF,RepF w f B FF ∧ ∀ w' B' F',RepF w' f B' F' → Turns w FF F' w' → OwnPost (RepV z p f sl L B') F w w':=by
 have hlt:=h.lt
 obtain ⟨h1,FW,FF,h2,h3,rfl,h4,h5,h6⟩:=h
 refine ⟨FF,h3,fun w' B' F' a b => ⟨z :: (FW ++ F'),⟨b.mod.keep h1 h5,FW,F',h2.mod b.mod (fun y hy => h6 y hy),a,rfl,h4,?_,?_⟩,b.mod.mono (by intro y hy;simp [hy]),?_⟩⟩
 ·intro e
  rcases b.new z e with e | e
  ·exact h5 e
  ·have:=hlt z (by simp);omega
 ·intro y hy e
  rcases b.new y e with e2 | e2
  ·exact h6 y hy e2
  ·have:=hlt y (by simp [hy]);omega
 ·intro y hy
  rcases List.mem_cons.1 hy with rfl | hy
  ·exact .inl (by simp)
  ·rcases List.mem_append.1 hy with hy | hy
   ·exact .inl (by simp [hy])
   ·rcases b.new y hy with e2 | e2
    ·exact .inl (by simp [e2])
    ·exact .inr e2
theorem OwnPost.ofBelow {A : World → List Nat → Prop} (hA : Own A) {F : List Nat} {w w' : World} (h : A w F) (hb : Below w.heap.size w w') : OwnPost A F w w':=⟨F,hA.mod h (Mod.ofBelow hb) (by simp),Turns.ofBelow hb⟩
theorem OwnPost.after {A : World → List Nat → Prop} {F : List Nat} {w w' w'' : World} (hb : Below w.heap.size w w') (h : OwnPost A F w' w'') : OwnPost A F w w'':=by
 obtain ⟨F',h1,h2⟩:=h
 exact ⟨F',h1,Turns.after hb h2⟩
theorem OwnPost.mod {A : World → List Nat → Prop} {F : List Nat} {w w' : World} (h : OwnPost A F w w') : Mod F w w':=by obtain ⟨F',-,h2⟩:=h;exact h2.mod
theorem v_kill (h : RepV z p f sl L B w F) (s g : Int) :
  Calls Tryz.prog 99 #[.pointer (some ⟨p,0,none⟩),.agg #[.int .i64 s,.int .i64 g]] w (VRet z p f (freeL sl s g) (killL L (s,g)) B F w (.int .i64 (killE L (s,g)))):=by
 obtain ⟨FW,h1,h2⟩:=h.turnW
 exact (wkill_any h1 s g).mono fun e w' ⟨he,F',a,b⟩ => ⟨he,h2 _ _ _ _ a b⟩
theorem v_adopt (h : RepV z p f sl L B w F) (s g t u : Int) (hc : HdR (s,g)) (hp : HdR (t,u)) :
  Calls Tryz.prog 51 #[.pointer (some ⟨f,0,none⟩),.agg #[.int .i64 s,.int .i64 g],.agg #[.int .i64 t,.int .i64 u]] w (VRet z p f sl L (adoB B (s,g) (t,u)) F w (.int .i64 (adoE B (s,g) (t,u)))):=by
 obtain ⟨FF,h1,h2⟩:=h.turnF
 exact (adopt_any h1 s g t u hc hp).mono fun e w' ⟨he,a,b⟩ => ⟨he,h2 _ _ _ a ⟨b,fun _ h => .inl h⟩⟩
theorem v_gone (h : RepV z p f sl L B w F) (s g : Int) :
  Calls Tryz.prog 100 #[.pointer (some ⟨f,0,none⟩),.agg #[.int .i64 s,.int .i64 g]] w (VRet z p f sl L (goneB B (s,g)) F w (.tuple #[])):=by
 obtain ⟨FF,h1,h2⟩:=h.turnF
 exact (gone_any h1 s g).mono fun e w' ⟨he,a,b⟩ => ⟨he,h2 _ _ _ a ⟨b,fun _ h => .inl h⟩⟩
theorem v_under (h : RepV z p f sl L B w F) (hl : B.length ≤ 60) (s g : Int) :
  Calls Tryz.prog 97 #[.pointer (some ⟨f,0,none⟩),.agg #[.int .i64 s,.int .i64 g]] w (MadeRecs 47 2 handleC (underB B (s,g)) w):=by
 obtain ⟨FF,h1⟩:=h.f_
 exact funder_any (by omega) (lowN B) s g w (lowN_spec h.okF.ac _) h1
end
def RepQ (q : Nat) (sl : Sl) (L : List Rw) (B : List Bd) (w : World) (F : List Nat) : Prop :=
 ∃ vB FZ,RepZ vB w q sl L FZ ∧ w.ownsRow 0 60 4 vB B.length (B.flatMap bdC) ∧ F = FZ ++ vB.ownBlock.toList ∧ ∀ y ∈ FZ,y ∉ vB.ownBlock.toList
section
variable {q : Nat} {sl sl' : Sl} {L L' : List Rw} {B B' : List Bd} {w w' : World} {F G : List Nat}
theorem RepQ.mod (h : RepQ q sl L B w F) (hm : Mod G w w') (hd : ∀ y ∈ F,y ∉ G) : RepQ q sl L B w' F:=by
 obtain ⟨vB,FZ,h1,h2,rfl,h3⟩:=h
 exact ⟨vB,FZ,h1.mod hm (fun y hy => hd y (by simp [hy])),row_mod h2 hm (fun k hk => hd k (by simp [hk])),rfl,h3⟩
theorem RepQ.lt (h : RepQ q sl L B w F) : ∀ y ∈ F,y < w.heap.size:=by
 obtain ⟨vB,FZ,h1,h2,rfl,h3⟩:=h
 intro y hy
 rcases List.mem_append.1 hy with hy | hy
 ·exact h1.lt y hy
 ·exact row_lt h2 y (by simpa using hy)
theorem RepQ.below (h : RepQ q sl L B w F) (hb : Below w.heap.size w w') : RepQ q sl L B w' F:=h.mod (Mod.ofBelow hb) (by simp)
theorem own_Q (q : Nat) (sl : Sl) (L : List Rw) (B : List Bd) : Own (RepQ q sl L B):=⟨fun h hm hd => h.mod hm hd,fun h => h.lt⟩
def QRet (q : Nat) (sl : Sl) (L : List Rw) (B : List Bd) (F : List Nat) (w : World) (r : Value) (e : Ending) (w' : World) : Prop:=e = .returned r ∧ OwnPost (RepQ q sl L B) F w w'
theorem RepQ.turnB (h : RepQ q sl L B w F) : ∃ vg vl vr FB,RepB vg vl vr w q B FB ∧ ∀ w' B' F',RepB vg vl vr w' q B' F' → Turns w FB F' w' → OwnPost (RepQ q sl L B') F w w':=by
 have hlt:=h.lt
 obtain ⟨vB,FZ,⟨vL,FS,⟨vg,vl,g1,g2,g3,rfl,g4⟩,g5,rfl,g6⟩,h2,rfl,h3⟩:=h
 have hq : q ∉ vB.ownBlock.toList:=h3 q (by simp)
 refine ⟨vg,vl,vL,q :: vB.ownBlock.toList,⟨vB,g1,h2,rfl,hq⟩,fun w' B' F' a b => ?_⟩
 obtain ⟨vB',k1,k2,rfl,k4⟩:=a
 have hn : ∀ y,y ≠ q → (y ∈ (q :: (vg.ownBlock.toList ++ vl.ownBlock.toList)) ++ vL.ownBlock.toList) → y ∉ q :: vB.ownBlock.toList:=fun y hy hm e => by
  rcases List.mem_cons.1 e with e | e
  ·exact hy e
  ·exact h3 y hm e
 have hnd:=List.nodup_append.1 g6
 have hqg : q ∉ vg.ownBlock.toList ++ vl.ownBlock.toList:=(List.nodup_cons.1 g4).1
 refine ⟨((q :: (vg.ownBlock.toList ++ vl.ownBlock.toList)) ++ vL.ownBlock.toList) ++ vB'.ownBlock.toList,⟨vB',_,⟨vL,_,⟨vg,vl,k1,row_mod g2 b.mod (fun k hk => ?_),row_mod g3 b.mod (fun k hk => ?_),rfl,g4⟩,row_mod g5 b.mod (fun k hk => ?_),rfl,g6⟩,k2,rfl,?_⟩,b.mod.mono (by
  intro y hy
  rcases List.mem_cons.1 hy with rfl | hy
  ·exact .inl (by simp)
  ·exact .inl (List.mem_append.2 (.inr hy))),?_⟩
 ·refine hn k ?_ (by simp [hk])
  rintro rfl
  exact hqg (by simp [hk])
 ·refine hn k ?_ (by simp [hk])
  rintro rfl
  exact hqg (by simp [hk])
 ·refine hn k ?_ (by simp [hk])
  rintro rfl
  exact (hnd.2.2 k (by simp) k (by simp [hk])) rfl
 ·intro y hy e
  by_cases ey : y = q
  ·subst ey;exact k4 e
  ·rcases b.new y (List.mem_cons_of_mem _ e) with e2 | e2
   ·exact hn y ey hy e2
   ·have:=hlt y (List.mem_append.2 (.inl hy));omega
 ·intro y hy
  rcases List.mem_append.1 hy with hy | hy
  ·exact .inl (List.mem_append.2 (.inl hy))
  ·rcases b.new y (List.mem_cons_of_mem _ hy) with e2 | e2
   ·rcases List.mem_cons.1 e2 with rfl | e2
    ·exact .inl (by simp)
    ·exact .inl (List.mem_append.2 (.inr e2))
   ·exact .inr e2
theorem RepQ.z_ (h : RepQ q sl L B w F) : ∃ vB FZ,RepZ vB w q sl L FZ:=by obtain ⟨vB,FZ,h1,-⟩:=h;exact ⟨vB,FZ,h1⟩
theorem RepQ.b_ (h : RepQ q sl L B w F) : ∃ vg vl vr FB,RepB vg vl vr w q B FB:=by obtain ⟨vg,vl,vr,FB,h1,-⟩:=h.turnB;exact ⟨vg,vl,vr,FB,h1⟩
theorem q_adopt (h : RepQ q sl L B w F) (hO : FamOk B) (hl : B.length ≤ 60) (s g t u : Int) :
  Calls Tryz.prog 68 #[.pointer (some ⟨q,0,none⟩),.agg #[.int .i64 s,.int .i64 g],.agg #[.int .i64 t,.int .i64 u]] w (QRet q sl L (adoB B (s,g) (t,u)) F w (.int .i64 (adoE B (s,g) (t,u)))):=by
 obtain ⟨vg,vl,vr,FB,h1,h2⟩:=h.turnB
 exact (radopt_any hO (by omega) h1 s g t u).mono fun e w' ⟨he,F',a,b⟩ => ⟨he,h2 _ _ _ a b⟩
theorem q_at (h : RepQ q sl L B w F) (hO : WOk sl L) (s g : Int) :
  Calls Tryz.prog 66 #[.pointer (some ⟨q,0,none⟩),.agg #[.int .i64 s,.int .i64 g]] w (fun e w' => e = .returned (.int .i64 (atI L (s,g))) ∧ Below w.heap.size w w'):=by
 obtain ⟨vB,FZ,h1⟩:=h.z_
 exact at_any h1 hO.len s g
end
def revK {α : Type} (l : List α) (k : Nat) : List α:=l.mapIdx fun i x => if i < k ∨ l.length - k ≤ i then l.getD (l.length - 1 - i) x else x
theorem revK_length {α : Type} (l : List α) (k : Nat) : (revK l k).length = l.length:=by simp [revK]
theorem revK_zero {α : Type} (l : List α) : revK l 0 = l:=by
 unfold revK
 apply List.ext_getElem (by simp)
 intro i h1 h2
 simp only [List.getElem_mapIdx]
 rw [if_neg (by simp at h1 ⊢;omega)]
theorem revK_get {α : Type} (l : List α) (k i : Nat) (h : i < l.length) : (revK l k)[i]'(by rw [revK_length];exact h) = if i < k ∨ l.length - k ≤ i then l[l.length - 1 - i] else l[i]:=by
 unfold revK
 simp only [List.getElem_mapIdx]
 split
 ·rw [List.getD_eq_getElem?_getD,List.getElem?_eq_getElem (by omega)];rfl
 ·rfl
theorem revK_end {α : Type} (l : List α) (k : Nat) (h : l.length ≤ 2 * k + 1) (hk : k ≤ l.length) : revK l k = l.reverse:=by
 apply List.ext_getElem (by rw [revK_length,List.length_reverse])
 intro i h1 h2
 rw [revK_length] at h1
 rw [revK_get l k i h1,List.getElem_reverse]
 split
 ·rfl
 ·congr 1;omega
theorem revK_step {α : Type} (l : List α) (k : Nat) (h : 2 * k + 1 < l.length) : ((revK l k).set k (l[l.length - 1 - k])).set (l.length - 1 - k) l[k] = revK l (k + 1):=by
 apply List.ext_getElem (by simp [revK_length])
 intro i h1 h2
 rw [revK_length] at h2
 rw [revK_get l (k + 1) i h2]
 by_cases e : i = l.length - 1 - k
 ·subst e
  rw [List.getElem_set_self,if_pos (by omega)]
  congr 1;omega
 ·rw [List.getElem_set_ne (Ne.symm e)]
  by_cases e2 : i = k
  ·subst e2
   rw [List.getElem_set_self,if_pos (by omega)]
  ·rw [List.getElem_set_ne (Ne.symm e2),revK_get l k i h2]
   by_cases h3 : i < k ∨ l.length - k ≤ i
   ·rw [if_pos h3,if_pos (by omega)]
   ·rw [if_neg h3,if_neg (by omega)]
theorem revK_at {α : Type} (l : List α) (k m : Nat) (h : k + m + 1 = l.length) (hkm : k < m) : ((revK l k).set k (l[m])).set m (l[k]) = revK l (k + 1):=by
 have:=revK_step l k (by omega)
 have e : l.length - 1 - k = m:=by omega
 simpa only [e] using this
attribute [local go_sem] AllFrom.cons_eq AllFrom.nil_eq putF_nil putF_cons wantedL_none wantedL_some OpGoalQ YieldsR preF_nil preF_cons
end Go.Proofs.YtfdillpofciicaaGreatDoor
