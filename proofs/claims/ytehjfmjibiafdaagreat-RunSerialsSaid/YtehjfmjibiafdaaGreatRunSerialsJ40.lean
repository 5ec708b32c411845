import Derived.Test.YtehjfmjibiafdaaGreatRunSerialsJ39
import Derived.Test.YtehjfmjibiafdaaGreatRunSerialsJ37
/- A part of the proof that RunSerials returns true. -/
namespace Go.Proofs.YtehjfmjibiafdaaGreat
open Go Go.RowKit
attribute [local go_sem] AllFrom.cons_eq AllFrom.nil_eq putF_nil putF_cons wantedL_none wantedL_some OpGoalT OpGoalV OpGoalQ OpGoalA OpGoalK YieldsR preF_nil preF_cons
structure IAp (m1 m2 m3 : Nat) (w0 : World) (l : List Hd) (x : Hd) (L : Nat → Bool) (σ : Nat → Value) (V : World) : Prop where
 b : Below w0.heap.size w0 V
 c : L m1 = true → L m3 = false → V.ownsRow w0.heap.size 41 2 (σ m1) l.length (l.flatMap handleC)
 o : L m2 = true → L m3 = false → oneR w0.heap.size (handleC x).toArray 41 (σ m2) V
 a : L m3 = true → V.ownsRow w0.heap.size 41 2 (σ m3) (l ++ [x]).length ((l ++ [x]).flatMap handleC)
section
variable {m1 m2 m3 : Nat} {w0 V V' : World} {l : List Hd} {x : Hd} {L : Nat → Bool} {σ : Nat → Value}
theorem IAp.start (h : Below w0.heap.size w0 V) : IAp m1 m2 m3 w0 l x (fun _ => false) σ V:=⟨h,fun e => (by cases e),fun e => (by cases e),fun e => (by cases e)⟩
theorem IAp.read (h : IAp m1 m2 m3 w0 l x L σ V) {i : Nat} (h1 : m1 ≠ i ∧ m2 ≠ i ∧ m3 ≠ i) (v : Value) : IAp m1 m2 m3 w0 l x (upd L i) (updv σ i v) V:=by
 obtain ⟨n1,n2,n3⟩:=h1
 have eL : ∀ j,j ≠ i → upd L i j = L j:=fun j hj => by unfold upd;simp [hj]
 have es : ∀ j,j ≠ i → updv σ i v j = σ j:=fun j hj => by unfold updv;rw [if_neg hj]
 refine ⟨h.b,?_,?_,?_⟩
 ·rw [eL m1 n1,eL m3 n3,es m1 n1];exact h.c
 ·rw [eL m2 n2,eL m3 n3,es m2 n2];exact h.o
 ·rw [eL m3 n3,es m3 n3];exact h.a
theorem IAp.copied (h : IAp m1 m2 m3 w0 l x L σ V) (h12 : m1 ≠ m2) (h13 : m1 ≠ m3) (hb : Below V.heap.size V V') {v : Value} (hv : V'.ownsRow V.heap.size 41 2 v l.length (l.flatMap handleC)) (h3 : L m3 = false) : IAp m1 m2 m3 w0 l x (upd L m1) (updv σ m1 v) V':=by
 have eL : ∀ j,j ≠ m1 → upd L m1 j = L j:=fun j hj => by unfold upd;simp [hj]
 have es : ∀ j,j ≠ m1 → updv σ m1 v j = σ j:=fun j hj => by unfold updv;rw [if_neg hj]
 have ev : updv σ m1 v m1 = v:=by unfold updv;simp
 have hs:=h.b.size
 refine ⟨h.b.trans (hb.mono hs),fun _ _ => ?_,?_,?_⟩
 ·rw [ev]
  exact row_base hv (fun k hk => by have:=(hv.lt k hk).1;omega)
 ·rw [eL m2 (Ne.symm h12),eL m3 (Ne.symm h13),es m2 (Ne.symm h12)];exact fun g1 g2 => oneR_mod (h.o g1 g2) (Mod.ofBelow hb) (by simp)
 ·rw [eL m3 (Ne.symm h13),h3];intro e;cases e
theorem IAp.oned (h : IAp m1 m2 m3 w0 l x L σ V) (h12 : m1 ≠ m2) (h23 : m2 ≠ m3) (h3 : L m3 = false) : IAp m1 m2 m3 w0 l x (upd L m2) (updv σ m2 (.slice (some ⟨V.heap.size,0,none⟩) 1 1)) (V.alloc (.cells (handleC x).toArray 41)):=by
 have eL : ∀ j,j ≠ m2 → upd L m2 j = L j:=fun j hj => by unfold upd;simp [hj]
 have es : ∀ v j,j ≠ m2 → updv σ m2 v j = σ j:=fun v j hj => by unfold updv;rw [if_neg hj]
 have ev : ∀ v,updv σ m2 v m2 = v:=fun v => by unfold updv;simp
 have hs:=h.b.size
 refine ⟨h.b.alloc hs _,?_,fun _ _ => ?_,?_⟩
 ·rw [eL m1 h12,eL m3 (Ne.symm h23),es _ m1 h12];exact fun g1 g2 => row_mod (h.c g1 g2) ((Mod.refl [] V).alloc _) (by simp)
 ·rw [ev];exact oneR_new hs
 ·rw [eL m3 (Ne.symm h23),h3];intro e;cases e
theorem IAp.apped (h : IAp m1 m2 m3 w0 l x L σ V) (h13 : m1 ≠ m3) (h23 : m2 ≠ m3) (g1 : L m1 = true) (g3 : L m3 = false) {v : Value} (hg : V.grownBy V' (σ m1).ownBlock) (hv : V'.ownsRow w0.heap.size 41 2 v (l ++ [x]).length ((l ++ [x]).flatMap handleC)) : IAp m1 m2 m3 w0 l x (upd L m3) (updv σ m3 v) V':=by
 have ev : updv σ m3 v m3 = v:=by unfold updv;simp
 refine ⟨h.b.trans ((Below.refl w0.heap.size V).grown hg h.b.size (own_ge (h.c g1 g3))),?_,?_,fun _ => by rw [ev];exact hv⟩
 ·intro _ e;simp [upd] at e
 ·intro _ e;simp [upd] at e
end
section
variable {q : Nat} {sl sl' : Sl} {L L' : List Rw} {B B' : List Bd} {w w' : World} {F G : List Nat}
set_option maxRecDepth 20000 in
set_option maxHeartbeats 4000000 in
theorem qdo_kill (h : RepQ q sl L B w F) (hO : ZOk sl L B) (K a0 a1 a2 a3 a4 a5 a6 a7 s g ts tg k n : Int) (hl3 : liveB sl s g = true) :
  Calls Tryz.prog 15 #[.pointer (some ⟨q,0,none⟩),.agg #[.int .i64 2,.int .i64 K,.int .i64 a0,.int .i64 a1,.int .i64 a2,.int .i64 a3,.int .i64 a4,.int .i64 a5,.int .i64 a6,.int .i64 a7,.int .i64 s,.int .i64 g,.int .i64 ts,.int .i64 tg,.int .i64 k,.int .i64 n]] w (QRet q ((killsZ (sl,L,B) (underB B (s,g) ++ [(s,g)])).1) ((killsZ (sl,L,B) (underB B (s,g) ++ [(s,g)])).2.1) ((killsZ (sl,L,B) (underB B (s,g) ++ [(s,g)])).2.2) F w (.tuple #[.agg #[.int .i64 0,.int .i64 0],.int .i64 0])):=by
 obtain ⟨w0,hw0,hb0,hz0,hs0⟩:=box1 w (.cells #[.int .i64 2,.int .i64 K,.int .i64 a0,.int .i64 a1,.int .i64 a2,.int .i64 a3,.int .i64 a4,.int .i64 a5,.int .i64 a6,.int .i64 a7,.int .i64 s,.int .i64 g,.int .i64 ts,.int .i64 tg,.int .i64 k,.int .i64 n] 52)
 obtain ⟨w1,hw1,hb1,hz1,hs1⟩:=box1 w0 (.cells #[.int .i64 0,.int .i64 0] 41)
 obtain ⟨w2,hw2,hb2,hz2,hs2⟩:=box1 w1 (.cells #[.int .i64 0,.int .i64 0] 41)
 have hb01:=hb0.trans (hb1.mono hb0.size)
 have hb02:=hb01.trans (hb2.mono hb01.size)
 have hz02:=(Mod.ofBelow hb2).keep ((Mod.ofBelow hb1).keep hz0 (by simp)) (by simp)
 have hz12:=(Mod.ofBelow hb2).keep hz1 (by simp)
 have hN0 : w.heap.size ∉ F:=fun e => by have:=h.lt _ e;omega
 have hN1 : w0.heap.size ∉ F:=fun e => by have:=h.lt _ e;omega
 have hN2 : w1.heap.size ∉ F:=fun e => by have:=h.lt _ e;omega
 have h2:=h.below hb02
 obtain ⟨o0,o1,o2,o3,o4,o5,o6,o7,o8,o9,o10,o11,o12,o13,o14,o15,ol⟩:=cells16 hz02
 obtain ⟨H,H2,Hb02,Hz02,Hz12,Hz2,HN0,HN1,HN2,Hs0,Hs1,Hs2,Hw2,HO⟩:=hid14 h h2 hb02 hz02 hz12 hz2 hN0 hN1 hN2 hs0 hs1 hs2 hw2 hO
 clear h h2 hb02 hz02 hz12 hz2 hN0 hN1 hN2 hs0 hs1 hs2 hw2 hO
 clear hb0 hb1 hb2 hz0 hz1 hb01
 obtain ⟨i3,hAt3⟩:=atI_live HO.out.w (s:=s) (g:=g) hl3
 have hlt3 : decide ((i3 : Int) < 0) = false:=by simp
 obtain ⟨HAt3,Hl3⟩:=hid2 hAt3 hl3
 clear hAt3 hl3
 go_enter Tryz.func15,Tryz.ntmps15
 go_wp2_with (first | (refine wpList_store_new rfl 41 (.tmp 6) (.tmp 9) rfl w1 (ints [0,0]) [.int .i64 0,.int .i64 0] 41 rfl rfl rfl (by kernel_rfl) (handleC_one (0,0)) ?_;rw [show ([.int .i64 0,.int .i64 0] : List Value).toArray = #[.int .i64 0,.int .i64 0] from rfl,Hw2.out]) | fail)
 clear hw0 hw1
 refine (q_at H2.out HO.out.w s g).mono ?_
 rintro e w3 ⟨rfl,hb3⟩
 rw [HAt3.out]
 have hb03:=Hb02.out.trans (hb3.mono Hb02.out.size)
 have h3:=H2.out.below hb3
 have hz03:=(Mod.ofBelow hb3).keep Hz02.out (by simp)
 have hz13:=(Mod.ofBelow hb3).keep Hz12.out (by simp)
 have hz23:=(Mod.ofBelow hb3).keep Hz2.out (by simp)
 clear o0 o1 o2 o3 o4 o5 o6 o7 o8 o9 o10 o11 o12 o13 o14 o15 ol
 obtain ⟨o0,o1,o2,o3,o4,o5,o6,o7,o8,o9,o10,o11,o12,o13,o14,o15,ol⟩:=cells16 hz03
 have hul:=under_len HO.out.f (s,g)
 have hol:=HO.out.len
 obtain ⟨us,hus⟩ : ∃ us,underB B (s,g) = us:=⟨_,rfl⟩
 rw [hus] at hul
 have HU:=Lib.hid (fun V (hb : Below w3.heap.size w3 V) => (hus ▸ q_under (h3.below hb) HO.out.f HO.out.len s g : Calls Tryz.prog 52 #[.pointer (some ⟨q,0,none⟩),.agg #[.int .i64 s,.int .i64 g]] V (MadeRecs 41 2 handleC us V)))
 obtain ⟨Hb03,H3,Hz03,Hz13,Hz23,Hul,Hol,Hus⟩:=hid8 hb03 h3 hz03 hz13 hz23 hul hol hus
 clear hb03 h3 hz03 hz13 hz23 hul hol hus
 clear hb3
 go_wp2_with fail
 clear o0 o1 o2 o3 o4 o5 o6 o7 o8 o9 o10 o11 o12 o13 o14 o15 ol
 refine wp_planK [3,6,7] 10 [0] [some 81,some 82,some 83,some 84,some 85,some 86,some 87,some 88,some 89,some 90] [[],[],[1],[0,1,2],[],[4],[4,5],[0,1,2,3,4,5,6],[0,1,2,3,4,5,6,7],[]] [0,1,2,3,4,5,6,7,8,9] (fun Lf σ W => IAp 3 6 7 w3 us (s,g) Lf σ W) mixed rfl (by kernel_rfl) (by decide) (by decide) (by decide) (IAp.start below_drew) rfl ?_
 iterate 10 apply Exists.intro
 refine ⟨rfl,?_,?_⟩
 ·simp only [tS,List.take_zero,AllFrom.cons_eq,AllFrom.nil_eq,OpGoalK]
  refine ⟨?_,?_,?_,?_,?_,?_,?_,?_,?_,?_,trivial⟩
  all_goals (intro L' σ V h1 h2 h3 hI hp;have HA1:=Lib.hid h1;have HA2:=Lib.hid h2;have HA3:=Lib.hid h3;clear h1 h2 h3;(try simp only [gZ,gS,preK_cons,preK_nil] at hp);(try simp only [List.mem_cons,List.not_mem_nil,or_false,eq_self,Nat.reduceEqDiff,Nat.reduceAdd,Nat.zero_add,false_or,true_or,true_and,and_true] at hp);(first | (have hq : True:=hp;clear hq hp) | skip);have HI:=Lib.hid hI;clear hI)
  all_goals (
   have hoV:=(Mod.ofBelow HI.out.b).keep Hz03.out (by simp)
   have o0:=blk_cell hoV 0
   have o1:=blk_cell hoV 1
   have o2:=blk_cell hoV 2
   have o3:=blk_cell hoV 3
   have o4:=blk_cell hoV 4
   have o5:=blk_cell hoV 5
   have o6:=blk_cell hoV 6
   have o7:=blk_cell hoV 7
   have o8:=blk_cell hoV 8
   have o9:=blk_cell hoV 9
   have o10:=blk_cell hoV 10
   have o11:=blk_cell hoV 11
   have o12:=blk_cell hoV 12
   have o13:=blk_cell hoV 13
   have o14:=blk_cell hoV 14
   have o15:=blk_cell hoV 15
   simp only [eA,eZ,eS] at o0 o1 o2 o3 o4 o5 o6 o7 o8 o9 o10 o11 o12 o13 o14 o15
   have ol:=blk_lt hoV
   clear hoV)
  iterate 3 · (go_simp;exact ⟨.inr rfl,HI.out.read (by decide) _⟩)
  ·go_simp
   refine (HU.out _ HI.out.b).mono ?_
   rintro e V' ⟨v,rfl,hv,hb⟩
   exact ⟨_,rfl,PostK.mk (c:=undef) (.inl (by decide)) (HI.out.copied (by decide) (by decide) hb hv (HA3.out 7 (by decide)))⟩
  iterate 2 · (go_simp;exact ⟨.inr rfl,HI.out.read (by decide) _⟩)
  ·go_simp
   exact PostK.mk (c:=undef) (.inl (by decide)) (HI.out.oned (by decide) (by decide) (HA3.out 7 (by decide)))
  ·simp only [wantedL_none,if_true]
   have ha7:=HI.out.c (HA2.out 3 (by decide)) HA1.out
   have ha11:=HI.out.o (HA2.out 6 (by decide)) HA1.out
   obtain ⟨Ha7,Ha11⟩:=hid2 ha7 ha11
   have Hlen:=Lib.hid (show (us.length + 1) * 16 ≤ 140737488355328 by have:=Hul.out;have:=Hol.out;omega)
   clear ha7 ha11
   refine yr_app (enc:=handleC) (n:=2) (z:=.agg #[.int .i64 0,.int .i64 0]) (bytes:=16) (.tmp 84) (.tmp 87) 55 41 rfl Tryz.underlying55 info_handle rfl (by omega) (by omega) handleC_one handleC_len w3.heap.size (σ 3) us (s,g) w3.heap.size (handleC (s,g)).toArray 41 (by go_simp) Ha7.out (by go_simp;exact Ha11.out) rfl Hlen.out HI.out.b.size ?_
   intro v' V' hv hg _
   exact PostK.mk (c:=undef) (.inl (by decide)) (HI.out.apped (by decide) (by decide) (HA2.out 3 (by decide)) HA1.out hg hv)
  ·have hr:=HI.out.a (HA2.out 7 (by decide))
   obtain ⟨A9,c9,e9,-,-⟩:=row_slice hr
   rw [List.length_append,List.length_singleton] at e9
   go_simp
   exact ⟨.inr rfl,HI.out.read (by decide) _⟩
  ·(go_simp;exact ⟨.inr rfl,HI.out.read (by decide) _⟩)
 ·intro L' σ V h1 hI hp
  have hr:=hI.a (h1 7 (by decide))
  have hb7:=hI.b
  have hV:=H3.out.below hb7
  have hbV:=Hb03.out.trans (hb7.mono Hb03.out.size)
  have hzV1:=(Mod.ofBelow hb7).keep Hz13.out (by simp)
  have hzV2:=(Mod.ofBelow hb7).keep Hz23.out (by simp)
  obtain ⟨hs,hhs⟩ : ∃ hs,us ++ [(s,g)] = hs:=⟨_,rfl⟩
  have hhl : hs.length ≤ 61:=by rw [← hhs,List.length_append,List.length_singleton];have:=Hul.out;have:=Hol.out;omega
  have hle : us.length + 1 = hs.length:=by rw [← hhs,List.length_append,List.length_singleton]
  have hmk : killsZ (sl,L,B) (underB B (s,g) ++ [(s,g)]) = killsZ (sl,L,B) hs:=by rw [Hus.out,hhs]
  rw [hhs] at hr
  clear h1 hI
  simp only [preK_cons,preK_nil,gZ,gS] at hp;simp only [List.mem_cons,List.not_mem_nil,or_false,eq_self,Nat.reduceEqDiff,false_or,true_or,true_and,and_true] at hp
  obtain ⟨A6,c6,e6,-,-⟩:=row_slice hr
  rw [e6] at hr
  have hrF : ∀ j,(Value.slice A6 hs.length c6).ownBlock = some j → j ∉ F:=fun j hj e => by
   have h1:=own_ge hr j hj
   have h2:=H3.out.lt j e
   omega
  obtain ⟨HV,HbV,HzV1,HzV2,Hhl,HMk,Hr,HrF,Hb7⟩:=hid9 hV hbV hzV1 hzV2 hhl hmk hr hrF hb7
  clear hV hbV hzV1 hzV2 hhl hmk hr hrF hb7
  simp only [dS,List.drop_zero]
  go_simp
  clear hp
  generalize σ 7 = v7 at *
  subst e6
  have hle2 : ((us.length : Int) + 1) = (hs.length : Int):=by omega
  try rw [hle2]
  clear hle hle2 hhs
  go_wp2_with fail
  refine ⟨rfl,?_⟩
  go_wp2_with fail
  go_loopw [90] (fun i wr => ∃ k : Nat,k ≤ hs.length ∧ i = .int .i64 k ∧ OwnPost (RepQ q (killsZ (sl,L,B) (hs.take k)).1 (killsZ (sl,L,B) (hs.take k)).2.1 (killsZ (sl,L,B) (hs.take k)).2.2) F V wr) (fun i _ => hs.length - (Go.RowKit.intOf i).toNat)
  case atStart => exact ⟨0,by omega,rfl,OwnPost.ofBelow (own_Q _ _ _ _) HV.out (Below.refl _ _)⟩
  case round =>
   obtain ⟨k,hk,rfl,hOP⟩:=hrel
   have hrow:=row_mod Hr.out hOP.mod HrF.out
   have hl61:=Hhl.out
   by_cases hlt : k < hs.length
   ·obtain ⟨A7,c7,e7,-,hL7⟩:=row_lies hrow
    cases e7
    obtain ⟨ab,ao,rfl,hal,hc⟩:=hL7.rec_at handleC_len (by omega) hlt
    have hki : (k : Int) < (hs.length : Int):=by omega
    have hst : killsZ (sl,L,B) (hs.take (k + 1)) = killZ (killsZ (sl,L,B) (hs.take k)) hs[k]:=by rw [take_succ_get hs k hlt,killsZ_snoc]
    have hok:=HO.out.kills (hs.take k)
    generalize killsZ (sl,L,B) (hs.take k) = st at *
    generalize hs[k] = x at *
    obtain ⟨sl1,L1,B1⟩:=st
    obtain ⟨s1,g1⟩:=x
    simp only at hOP hok
    obtain ⟨F1,hR,hT⟩:=hOP
    obtain ⟨w5,hw5,hb4,hz4,hs4⟩:=box1 wr (.cells #[.int .i64 s1,.int .i64 g1] 41)
    have hR4:=hR.below hb4
    have hN1' : wr.heap.size ∉ F1:=fun e => by have:=hR.lt _ e;omega
    have hq : ∀ j u,(handleC (s1,g1))[j]? = some u → wr.cell? ((⟨ab,ao + k * 2,none⟩ : Addr).add j) = some u:=fun j u hu => by first | exact hc j u hu | (have:=hc j u hu;rw [Addr.add_mid];exact this)
    obtain ⟨HR,HR4,HN1',Hb4,Hz4,Hs4,Hw5,HQ,Hst,HT,Hlt,Hok⟩:=hid12 hR hR4 hN1' hb4 hz4 hs4 hw5 hq hst hT hlt hok
    clear hR hR4 hN1' hb4 hz4 hs4 hw5 hq hst hT hlt hok
    clear hc hrow hL7
    go_wp2_with (first | (refine wpList_load_flat rfl 41 (.tmp 92) rfl _ rfl [.int .i64 s1,.int .i64 g1] _ Tryz.underlying41 rfl (by kernel_rfl) HQ.out ?_) | fail)
    rw [Hw5.out]
    refine (q_kill HR4.out Hok.out.w s1 g1).mono ?_
    rintro e V5 ⟨rfl,hP⟩
    have hzV:=hP.mod.keep Hz4.out HN1'.out
    obtain ⟨F2,hR6,hT6⟩:=hP
    have hN2' : wr.heap.size ∉ F2:=fun e => by
     rcases hT6.new _ e with e | e
     ·exact HN1'.out e
     ·have:=Hs4.out;omega
    obtain ⟨q0,q1,ql⟩:=cells2 hzV
    obtain ⟨HR6,HT6,HN2',HzV⟩:=hid4 hR6 hT6 hN2' hzV
    clear hR6 hT6 hN2' hzV
    go_wp2_with fail
    refine (q_gone HR6.out Hok.out.len s1 g1).mono ?_
    rintro e V6 ⟨rfl,hP⟩
    have hT7:=(HT.out.below Hb4.out).trans HT6.out
    have hfin : OwnPost (RepQ q (killsZ (sl,L,B) (hs.take (k + 1))).1 (killsZ (sl,L,B) (hs.take (k + 1))).2.1 (killsZ (sl,L,B) (hs.take (k + 1))).2.2) F V V6:=by
     rw [Hst.out]
     obtain ⟨F3,h3,h4⟩:=hP
     exact ⟨F3,h3,hT7.trans h4⟩
    have Hfin:=Lib.hid hfin
    clear hfin
    clear hP hT7 q0 q1 ql
    have hlt:=Hlt.out
    go_wp2
    go_roundw
    case rel => exact ⟨k + 1,by omega,by go_num,Hfin.out⟩
    case measure => simp [Go.RowKit.intOf];omega
   ·obtain rfl : k = hs.length:=by omega
    rw [List.take_length,← HMk.out] at hOP
    have hy:=hOP.mod.keep HzV1.out HN1.out
    have heV:=hOP.mod.keep HzV2.out HN2.out
    obtain ⟨y0,y1,yl⟩:=cells2 hy
    obtain ⟨e0,e1,el⟩:=cells2 heV
    have f0:=blk_free hy 0
    have f1:=blk_free hy 1
    have hle0:=Hs0.out;have hle1:=blk_lt HzV1.out
    have HFin:=Lib.hid (fun V' (hm : Mod [w0.heap.size] wr V') => OwnPost.side (own_Q _ _ _ _) hOP (by omega) HN1.out HbV.out (by omega) hm)
    clear hOP hrow hlt hy heV hle0 hle1
    go_wp2
    refine bodyPost_ret (v:=.tuple #[.agg #[.int .i64 0,.int .i64 0],.int .i64 0]) (by unfold results;try go_simp) rfl ?_
    refine ⟨rfl,HFin.out _ ?_⟩
    repeat (refine Mod.setCell ?_ (.inl (by simp)) _)
    exact Mod.refl _ _
end
end Go.Proofs.YtehjfmjibiafdaaGreat
namespace Go.Proofs.YtehjfmjibiafdaaGreat
open Go Go.ChangeShapes Go.WideShapes Go.RowKit
end Go.Proofs.YtehjfmjibiafdaaGreat
namespace Go.Proofs.YtehjfmjibiafdaaGreat
open Go Go.RowKit
attribute [local go_sem] AllFrom.cons_eq AllFrom.nil_eq putF_nil putF_cons wantedL_none wantedL_some OpGoalT OpGoalS OpGoalP OpGoalV YieldsR preF_nil preF_cons
end Go.Proofs.YtehjfmjibiafdaaGreat
namespace Go.Proofs.YtehjfmjibiafdaaGreat
open Go Go.RowKit
end Go.Proofs.YtehjfmjibiafdaaGreat
namespace Go.Proofs.YtehjfmjibiafdaaGreat
open Go.ChangeShapes Go.WideShapes Go.ChangeAt Go.RowKit
attribute [local go_sem] AllFrom.cons_eq AllFrom.nil_eq putF_nil putF_cons wantedL_none wantedL_some OpGoalT OpGoalS OpGoalP OpGoalV YieldsR preF_nil preF_cons
end Go.Proofs.YtehjfmjibiafdaaGreat
namespace Go.Proofs.YtehjfmjibiafdaaGreat
open Go Go.RowKit
section
variable {gs : List Int} {rows : List Rw}
end
section
variable {sl : Sl} {B : List Bd} {x : Bd} {r : List Bd}
theorem adoB_fam (h : FamOk B) (a b : Hd) : FamOk (adoB B a b):=by
 unfold adoB
 split
 ·exact h
 ·exact insB_ok h (by assumption)
theorem adoB_live (h : ∀ b ∈ B,b.1 ∈ allS sl) {a b : Hd} (ha : a ∈ allS sl) : ∀ y ∈ adoB B a b,y.1 ∈ allS sl:=by
 intro y hy
 unfold adoB at hy
 split at hy
 ·exact h y hy
 ·rcases mem_insB.1 hy with rfl | ⟨hy,-⟩
  ·exact ha
  ·exact h y hy
end
theorem spawnS_sub {sl : Sl} (h : SlOk sl) (b : Bt) {x : Hd} (hx : x ∈ allS sl) : x ∈ allS (spawnS sl b):=by
 unfold spawnS
 split
 ·exact hx
 ·by_cases e : takeE sl = 0
  ·obtain ⟨k,-,-,-,ha⟩:=take_spec h e
   rw [ha]
   unfold insH
   rw [← List.takeWhile_append_dropWhile (p:=fun y : Hd => decide (y.1 < ((k : Int),takeG sl).1) ) (l:=allS sl)] at hx
   rcases List.mem_append.1 hx with hx | hx
   ·exact List.mem_append.2 (.inl hx)
   ·exact List.mem_append.2 (.inr (List.mem_cons_of_mem _ hx))
  ·have e2 : takeL sl = sl:=by
    unfold takeE at e
    unfold takeL
    cases hf : sl.findIdx? freeB with
    | some k => rw [hf] at e;exact absurd rfl e
    | none =>
     rw [hf] at e
     simp only at e ⊢
     by_cases h60 : sl.length = 60
     ·rw [if_pos h60]
     ·rw [if_neg h60] at e;exact absurd rfl e
   rw [e2];exact hx
theorem kills_par : ∀ {sl : Sl} {L : List Rw} {B : List Bd} (_ : ∀ b ∈ B,b.2 ∈ allS sl) (l : List Hd),∀ b ∈ (killsZ (sl,L,B) l).2.2,b.2 ∈ allS (killsZ (sl,L,B) l).1
 | _,_,_,h,[] => h
 | sl,L,B,h,x :: l => kills_par (sl:=freeL sl x.1 x.2) (L:=killL L x) (B:=goneB B x) (fun b hb => by
  obtain ⟨h1,-,h3⟩:=mem_goneB.1 hb
  exact mem_free.2 ⟨h b h1,h3⟩) l
structure DoAt (sl : Sl) (L : List Rw) (B : List Bd) (d K a0 a1 a2 a3 a4 a5 a6 a7 s g ts tg k n : Int) (sl' : Sl) (L' : List Rw) (B' : List Bd) (r0 r1 e : Int) : Prop where
 c : ∀ b ∈ B',b.1 ∈ allS sl'
 ok : ZOk sl L B → ZOk sl' L' B'
 par : (∀ b ∈ B,b.2 ∈ allS sl) → ∀ b ∈ B',b.2 ∈ allS sl'
 pl : DoPl sl d sl' r0 r1 e
 v : ∀ {z p f : Nat} {w : World} {F : List Nat},RepV z p f sl L B w F → Calls Tryz.prog 14 #[.pointer (some ⟨z,0,none⟩),.agg #[.int .i64 d,.int .i64 K,.int .i64 a0,.int .i64 a1,.int .i64 a2,.int .i64 a3,.int .i64 a4,.int .i64 a5,.int .i64 a6,.int .i64 a7,.int .i64 s,.int .i64 g,.int .i64 ts,.int .i64 tg,.int .i64 k,.int .i64 n]] w (VRet z p f sl' L' B' F w (.tuple #[.agg #[.int .i64 r0,.int .i64 r1],.int .i64 e]))
 q : ∀ {q : Nat} {w : World} {F : List Nat},RepQ q sl L B w F → Calls Tryz.prog 15 #[.pointer (some ⟨q,0,none⟩),.agg #[.int .i64 d,.int .i64 K,.int .i64 a0,.int .i64 a1,.int .i64 a2,.int .i64 a3,.int .i64 a4,.int .i64 a5,.int .i64 a6,.int .i64 a7,.int .i64 s,.int .i64 g,.int .i64 ts,.int .i64 tg,.int .i64 k,.int .i64 n]] w (QRet q sl' L' B' F w (.tuple #[.agg #[.int .i64 r0,.int .i64 r1],.int .i64 e]))
theorem live2 {sl : Sl} {s g t u : Int} : liveZ sl [(s,g),(t,u)] = (liveB sl s g && liveB sl t u):=by unfold liveZ;simp
theorem live1 {sl : Sl} {s g : Int} : liveZ sl [(s,g)] = liveB sl s g:=by unfold liveZ;simp
theorem do_any {sl : Sl} {L : List Rw} {B : List Bd} (hO : ZOk sl L B) (d K a0 a1 a2 a3 a4 a5 a6 a7 s g ts tg k n : Int) (hc : HdR (s,g)) (hp : HdR (ts,tg)) :
  ∃ sl' L' B' r0 r1 e,DoAt sl L B d K a0 a1 a2 a3 a4 a5 a6 a7 s g ts tg k n sl' L' B' r0 r1 e:=by
 by_cases h1 : d = 1
 ·subst h1
  exact ⟨_,_,_,_,_,_,fun b hb => spawnS_sub hO.w.ok _ (hO.c b hb),fun hO => ⟨hO.w.spawnA _,hO.f,fun b hb => spawnS_sub hO.w.ok _ (hO.c b hb)⟩,fun hq b hb => spawnS_sub hO.w.ok _ (hq b hb),doPl_spawn hO.w.ok _,fun h => vdo_spawn h K a0 a1 a2 a3 a4 a5 a6 a7 s g ts tg k n,fun h => qdo_spawn h hO K a0 a1 a2 a3 a4 a5 a6 a7 s g ts tg k n⟩
 by_cases h2 : d = 2
 ·subst h2
  cases hl : liveB sl s g with
  | true => exact ⟨_,_,_,_,_,_,(hO.kills _).c,fun hO => hO.kills _,fun hq => kills_par hq _,doPl_kills _ (by decide),fun h => vdo_kill h K a0 a1 a2 a3 a4 a5 a6 a7 s g ts tg k n hO hl,fun h => qdo_kill h hO K a0 a1 a2 a3 a4 a5 a6 a7 s g ts tg k n hl⟩
  | false => exact ⟨_,_,_,_,_,_,hO.c,id,id,doPl_same (fun h => absurd h (by decide)),fun h => vdo_killno h K a0 a1 a2 a3 a4 a5 a6 a7 s g ts tg k n hO hl,fun h => qdo_killno h hO K a0 a1 a2 a3 a4 a5 a6 a7 s g ts tg k n hl⟩
 by_cases h3 : d = 3
 ·subst h3
  exact ⟨_,_,_,_,_,_,hO.c,fun hO => ⟨hO.w.putA _ _ _,hO.f,hO.c⟩,id,doPl_same (fun h => absurd h (by decide)),fun h => vdo_put h K a0 a1 a2 a3 a4 a5 a6 a7 s g ts tg k n,fun h => qdo_put h hO K a0 a1 a2 a3 a4 a5 a6 a7 s g ts tg k n⟩
 by_cases h4 : d = 4
 ·subst h4
  exact ⟨_,_,_,_,_,_,hO.c,fun hO => ⟨hO.w.dropA _ _,hO.f,hO.c⟩,id,doPl_same (fun h => absurd h (by decide)),fun h => vdo_drop h K a0 a1 a2 a3 a4 a5 a6 a7 s g ts tg k n,fun h => qdo_drop h hO K a0 a1 a2 a3 a4 a5 a6 a7 s g ts tg k n⟩
 by_cases h5 : d = 5
 ·subst h5
  cases hl : liveB sl s g with
  | false => exact ⟨_,_,_,_,_,_,hO.c,id,id,doPl_same (fun h => absurd h (by decide)),fun h => vdo_adoptno h K a0 a1 a2 a3 a4 a5 a6 a7 s g ts tg k n (by rw [live2,hl];rfl),fun h => qdo_adoptno1 h hO K a0 a1 a2 a3 a4 a5 a6 a7 s g ts tg k n hl⟩
  | true =>
   cases ht : liveB sl ts tg with
   | false => exact ⟨_,_,_,_,_,_,hO.c,id,id,doPl_same (fun h => absurd h (by decide)),fun h => vdo_adoptno h K a0 a1 a2 a3 a4 a5 a6 a7 s g ts tg k n (by rw [live2,hl,ht];rfl),fun h => qdo_adoptno2 h hO K a0 a1 a2 a3 a4 a5 a6 a7 s g ts tg k n hl ht⟩
   | true =>
    refine ⟨_,_,_,_,_,_,fun b hb => ?_,fun hO2 => ⟨hO2.w,adoB_fam hO2.f _ _,?_⟩,fun hq b hb => ?_,doPl_same (fun h => absurd h (by decide)),fun h => vdo_adopt h K a0 a1 a2 a3 a4 a5 a6 a7 s g ts tg k n hc hp (by rw [live2,hl,ht];rfl),fun h => qdo_adopt h hO K a0 a1 a2 a3 a4 a5 a6 a7 s g ts tg k n hl ht⟩
    ·unfold adoB at hb
     split at hb
     ·exact hO.c b hb
     ·rcases mem_insB.1 hb with rfl | ⟨hb,-⟩
      ·exact (liveB_iff sl s g).1 hl
      ·exact hO.c b hb
    ·exact adoB_live hO2.c ((liveB_iff sl s g).1 hl)
    ·unfold adoB at hb
     split at hb
     ·exact hq b hb
     ·rcases mem_insB.1 hb with rfl | ⟨hb,-⟩
      ·exact (liveB_iff sl ts tg).1 ht
      ·exact hq b hb
 by_cases h6 : d = 6
 ·subst h6
  cases hl : liveB sl s g with
  | true => exact ⟨_,_,_,_,_,_,fun b hb => hO.c b (List.mem_filter.1 hb).1,fun hO => ⟨hO.w,hO.f.sub List.filter_sublist,fun b hb => hO.c b (List.mem_filter.1 hb).1⟩,fun hq b hb => hq b (List.mem_filter.1 hb).1,doPl_same (fun h => absurd h (by decide)),fun h => vdo_loosen h K a0 a1 a2 a3 a4 a5 a6 a7 s g ts tg k n hc (by rw [live1,hl]),fun h => qdo_loosen h hO K a0 a1 a2 a3 a4 a5 a6 a7 s g ts tg k n hl⟩
  | false => exact ⟨_,_,_,_,_,_,hO.c,id,id,doPl_same (fun h => absurd h (by decide)),fun h => vdo_loosenno h K a0 a1 a2 a3 a4 a5 a6 a7 s g ts tg k n (by rw [live1,hl]),fun h => qdo_loosenno h hO K a0 a1 a2 a3 a4 a5 a6 a7 s g ts tg k n hl⟩
 exact ⟨_,_,_,_,_,_,hO.c,id,id,doPl_same (fun h => absurd h h1),fun h => vdo_other h K a0 a1 a2 a3 a4 a5 a6 a7 s g ts tg k n d h1 h2 h3 h4 h5 h6,fun h => qdo_other h hO K a0 a1 a2 a3 a4 a5 a6 a7 s g ts tg k n d h1 h2 h3 h4 h5 h6⟩
end Go.Proofs.YtehjfmjibiafdaaGreat
namespace Go.Proofs.YtehjfmjibiafdaaGreat
open Go Go.RowKit Go.ChangeShapes Go.WideShapes Go.ChangeAt
abbrev Ov:=Int × Bt × Hd × Hd × Int × Int
def opI (x : Ov) : List Int:=[x.1] ++ (btI x.2.1 ++ (hdI x.2.2.1 ++ (hdI x.2.2.2.1 ++ [x.2.2.2.2.1,x.2.2.2.2.2])))
def opC (x : Ov) : List Value:=ints (opI x)
theorem opC_len (x : Ov) : (opC x).length = 16:=rfl
theorem opC_one (x : Ov) : ∀ u ∈ opC x,u.oneCell' = true:=ints_one _
theorem sz_Op (x : Ov) : (Tryz.prog.info? 52).map (·.size) = some (opC x).length:=by rw [opC_len];kernel_rfl
theorem opI_mk (zs : List Int) (h : zs.length = 16) : ∃ x,opI x = zs:=by
 match zs,h with
 | [d,K,a0,a1,a2,a3,a4,a5,a6,a7,s,g,ts,tg,kd,n],_ => exact ⟨(d,(K,a0,a1,a2,a3,a4,a5,a6,a7),(s,g),(ts,tg),kd,n),rfl⟩
theorem intCells_Op : IntCells Tryz.prog 52:=IntCells.struct Tryz.underlying52 (by kernel_rfl) (by
 intro f hf
 simp only [List.mem_toArray,List.mem_cons,List.not_mem_nil,or_false] at hf
 rcases hf with rfl | rfl | rfl | rfl | rfl | rfl
 ·exact intCells_int
 ·exact intCells_Beast
 ·exact intCells_Handle
 ·exact intCells_Handle
 ·exact intCells_int
 ·exact intCells_int)
section
variable {vB : Value} {Lo : Nat} {Z : List Nat} {p q : Nat} {sl sl' : Sl} {L L' : List Rw} {w : World}
end
end Go.Proofs.YtehjfmjibiafdaaGreat
namespace Go.Proofs.YtehjfmjibiafdaaGreat
open Go Go.RowKit
end Go.Proofs.YtehjfmjibiafdaaGreat
namespace Go.Proofs.YtehjfmjibiafdaaGreat
open Go Go.RowKit
attribute [local go_sem] AllFrom.cons_eq AllFrom.nil_eq putF_nil putF_cons wantedL_none wantedL_some OpGoalT OpGoalV OpGoalQ OpGoalA OpGoalK YieldsR preF_nil preF_cons
section
variable {w : World} {A A2 : Option Addr} {c c2 : Nat} {gs : List Int} {rows : List Rw}
end
end Go.Proofs.YtehjfmjibiafdaaGreat
namespace Go.Proofs.YtehjfmjibiafdaaGreat
open Go Go.RowKit
section
variable {sl : Sl} {L : List Rw} {B : List Bd}
end
end Go.Proofs.YtehjfmjibiafdaaGreat
namespace Go.Proofs.YtehjfmjibiafdaaGreat
open Go Go.RowKit
attribute [local go_sem] AllFrom.cons_eq AllFrom.nil_eq putF_nil putF_cons wantedL_none wantedL_some OpGoalT OpGoalV OpGoalQ OpGoalA OpGoalK YieldsR preF_nil preF_cons
theorem eqRows_self (l : List Rw) (v v' : Value) (w : World) {B B' : Nat} (hl : l.length ≤ 1200000000000) (h : w.ownsRow B 69 11 v l.length (l.flatMap rwC)) (h' : w.ownsRow B' 69 11 v' l.length (l.flatMap rwC)) :
  Calls Tryz.prog 23 #[v,v'] w fun e w' => e = .returned (.bool true) ∧ Below w.heap.size w w':=by
 obtain ⟨A,c,rfl,hc,hA⟩:=own_lies h
 obtain ⟨A',c',rfl,hc',hA'⟩:=own_lies h'
 have:=eqRow_any A c A' c' l l w (by omega) (by omega) hA hA'
 rw [eqB_self] at this
 exact this
theorem eqBonds_self (l : List Bd) (v v' : Value) (w : World) {B B' : Nat} (hl : l.length ≤ 1200000000000) (h : w.ownsRow B 84 4 v l.length (l.flatMap bdC)) (h' : w.ownsRow B' 84 4 v' l.length (l.flatMap bdC)) :
  Calls Tryz.prog 36 #[v,v'] w fun e w' => e = .returned (.bool true) ∧ Below w.heap.size w w':=by
 obtain ⟨A,c,rfl,hc,hA⟩:=own_lies h
 obtain ⟨A',c',rfl,hc',hA'⟩:=own_lies h'
 have:=eqBond_any A c A' c' l l w (by omega) (by omega) hA hA'
 rw [eqB_self] at this
 exact this
theorem eqInts_self (l : List Int) (v v' : Value) (w : World) {B B' : Nat} (hl : l.length ≤ 1200000000000) (h : w.ownsRow B 3 1 v l.length (ints l)) (h' : w.ownsRow B' 3 1 v' l.length (ints l)) :
  Calls Tryz.prog 35 #[v,v'] w fun e w' => e = .returned (.bool true) ∧ Below w.heap.size w w':=by
 obtain ⟨A,c,rfl,hc,hA⟩:=own_lies h
 obtain ⟨A',c',rfl,hc',hA'⟩:=own_lies h'
 have:=eqInt_any A c A' c' l l w.heap.size w.heap.size w (by omega) (by omega) hA hA'
 rw [eqB_self] at this
 exact this.mono fun e w' ⟨he,hw⟩ => ⟨he,hw ▸ Below.refl _ _⟩
set_option maxRecDepth 20000 in
set_option maxHeartbeats 4000000 in
theorem same_any {sl : Sl} {L : List Rw} {B : List Bd} (hO : ZOk sl L B) {v1 v2 v3 u1 u2 u3 : Value} {w : World} (g1 : w.ownsRow 0 3 1 v1 (gensS sl).length (ints (gensS sl))) (g2 : w.ownsRow 0 69 11 v2 L.length (L.flatMap rwC)) (g3 : w.ownsRow 0 84 4 v3 B.length (B.flatMap bdC))
  (k1 : w.ownsRow 0 3 1 u1 (gensS sl).length (ints (gensS sl))) (k2 : w.ownsRow 0 69 11 u2 L.length (L.flatMap rwC)) (k3 : w.ownsRow 0 84 4 u3 B.length (B.flatMap bdC)) :
  Calls Tryz.prog 10 #[.agg #[v1,v2,v3],.agg #[u1,u2,u3]] w fun e w' => e = .returned (.bool true) ∧ Below w.heap.size w w':=by
 obtain ⟨A1,c1,rfl,-,-⟩:=row_slice g1
 obtain ⟨A2,c2,rfl,-,-⟩:=row_slice g2
 obtain ⟨A3,c3,rfl,-,-⟩:=row_slice g3
 obtain ⟨A4,c4,rfl,-,-⟩:=row_slice k1
 obtain ⟨A5,c5,rfl,-,-⟩:=row_slice k2
 obtain ⟨A6,c6,rfl,-,-⟩:=row_slice k3
 have hlg : (gensS sl).length ≤ 60:=by unfold gensS;rw [List.length_map];exact hO.w.ok.1
 have hll:=hO.w.len;have hbl:=hO.len
 generalize gensS sl = gs at *
 obtain ⟨w0,hw0,hb0,hz0,hs0⟩:=box1 w (.cells #[.slice A1 gs.length c1,.slice A2 L.length c2,.slice A3 B.length c3] 26)
 obtain ⟨w1,hw1,hb1,hz1,hs1⟩:=box1 w0 (.cells #[.slice A4 gs.length c4,.slice A5 L.length c5,.slice A6 B.length c6] 26)
 have hb01:=hb0.trans (hb1.mono hb0.size)
 have hz01:=(Mod.ofBelow hb1).keep hz0 (by simp)
 have H1:=Lib.hid (fun V (hb : Below w.heap.size w V) => eqInts_self gs _ _ V (by omega) (row_mod g1 (Mod.ofBelow hb) (by simp)) (row_mod k1 (Mod.ofBelow hb) (by simp)))
 have H2:=Lib.hid (fun V (hb : Below w.heap.size w V) => eqRows_self L _ _ V (by omega) (row_mod g2 (Mod.ofBelow hb) (by simp)) (row_mod k2 (Mod.ofBelow hb) (by simp)))
 have H3:=Lib.hid (fun V (hb : Below w.heap.size w V) => eqBonds_self B _ _ V (by omega) (row_mod g3 (Mod.ofBelow hb) (by simp)) (row_mod k3 (Mod.ofBelow hb) (by simp)))
 obtain ⟨a0,a1,a2,al⟩:=cells3 hz01
 obtain ⟨b0,b1,b2,bl⟩:=cells3 hz1
 obtain ⟨Hb01,Hz01,Hz1,Hs0,Hs1⟩:=hid5 hb01 hz01 hz1 hs0 hs1
 clear hb01 hz01 hz1 hs0 hs1
 clear g1 g2 g3 k1 k2 k3 hb0 hb1 hz0
 go_enter Tryz.func10,Tryz.ntmps10
 go_wp2_with fail
 clear hw0 hw1
 refine (H1.out _ Hb01.out).mono ?_
 rintro e w2 ⟨rfl,hb2⟩
 have hz02:=(Mod.ofBelow hb2).keep Hz01.out (by simp)
 have hz12:=(Mod.ofBelow hb2).keep Hz1.out (by simp)
 have hb02:=Hb01.out.trans (hb2.mono Hb01.out.size)
 clear a0 a1 a2 al b0 b1 b2 bl
 obtain ⟨a0,a1,a2,al⟩:=cells3 hz02
 obtain ⟨b0,b1,b2,bl⟩:=cells3 hz12
 obtain ⟨Hz02,Hz12,Hb02⟩:=hid3 hz02 hz12 hb02
 clear hz02 hz12 hb02
 clear hb2
 go_wp2_with fail
 refine (H2.out _ Hb02.out).mono ?_
 rintro e w3 ⟨rfl,hb3⟩
 have hz03:=(Mod.ofBelow hb3).keep Hz02.out (by simp)
 have hz13:=(Mod.ofBelow hb3).keep Hz12.out (by simp)
 have hb03:=Hb02.out.trans (hb3.mono Hb02.out.size)
 clear a0 a1 a2 al b0 b1 b2 bl
 obtain ⟨a0,a1,a2,al⟩:=cells3 hz03
 obtain ⟨b0,b1,b2,bl⟩:=cells3 hz13
 obtain ⟨Hz03,Hz13,Hb03⟩:=hid3 hz03 hz13 hb03
 clear hz03 hz13 hb03
 clear hb3
 go_wp2_with fail
 refine (H3.out _ Hb03.out).mono ?_
 rintro e w4 ⟨rfl,hb4⟩
 have hb04:=Hb03.out.trans (hb4.mono Hb03.out.size)
 have Hb04:=Lib.hid hb04
 clear hb04
 clear hb4
 go_wp2
 go_ret
 exact ⟨rfl,Hb04.out⟩
def NewV (w : World) (e : Ending) (w' : World) : Prop:=∃ z p f F,e = .returned (.pointer (some ⟨z,0,none⟩)) ∧ RepV z p f [] [] [] w' F ∧ (∀ y ∈ F,w.heap.size ≤ y) ∧ Below w.heap.size w w'
set_option maxRecDepth 20000 in
theorem zooNew_any (w : World) : Calls Tryz.prog 13 #[] w (NewV w):=by
 go_enter Tryz.func13,Tryz.ntmps13
 go_wp2_with fail
 refine (worldNew_any w).mono ?_
 rintro e w1 ⟨p,FW,rfl,hW,hFW,hb1⟩
 obtain ⟨HW,HFW,Hb1⟩:=hid3 hW hFW hb1
 clear hW hFW hb1
 go_wp2_with fail
 refine (famNew_any w1).mono ?_
 rintro e w2 ⟨f,FF,rfl,hF,hFF,hb2⟩
 obtain ⟨w3,hw3,hb3,hz3,hs3⟩:=box1 w2 (.cells #[.pointer (some ⟨p,0,none⟩),.pointer (some ⟨f,0,none⟩)] 62)
 have hlW:=HW.out.lt;have hlF:=hF.lt
 have hs1:=Hb1.out.size;have hs2:=hb2.size
 have hfin : RepV w2.heap.size p f [] [] [] w3 (w2.heap.size :: (FW ++ FF)):=⟨hz3,FW,FF,(HW.out.below hb2).below hb3,hF.below hb3,rfl,fun e => by have:=hlW _ e;omega,fun e => by have:=hlF _ e;omega,fun y hy e => by have h1:=hlW y hy;have h2:=hFF y e;omega⟩
 have hge : ∀ y ∈ w2.heap.size :: (FW ++ FF),w.heap.size ≤ y:=fun y hy => by
  rcases List.mem_cons.1 hy with rfl | hy
  ·omega
  ·rcases List.mem_append.1 hy with hy | hy
   ·exact HFW.out y hy
   ·have:=hFF y hy;omega
 have hb03:=(Hb1.out.trans (hb2.mono hs1)).trans (hb3.mono (by omega))
 obtain ⟨Hfin,Hge,Hb03⟩:=hid3 hfin hge hb03
 clear hfin hge hb03
 clear hb2 hb3 hz3 hs3 hlW hlF hs1 hs2 hF hFF
 go_wp2
 go_ret
 exact ⟨_,_,_,_,rfl,Hfin.out,Hge.out,Hb03.out⟩
abbrev PVQ (Lo : Nat) (Z : List Nat) (z p f q : Nat) (sl : Sl) (L : List Rw) (B : List Bd) (sl' : Sl) (L' : List Rw) (B' : List Bd) (w : World) : Prop:=Sep Lo Z (RepV z p f sl L B) (RepQ q sl' L' B') w
section
variable {Lo : Nat} {Z : List Nat} {z p f q : Nat} {sl sl' sl2 : Sl} {L L' L2 : List Rw} {B B' B2 : List Bd} {w : World}
theorem PVQ.ok (h : PVQ Lo Z z p f q sl L B sl' L' B' w) (hc : ∀ b ∈ B,b.1 ∈ allS sl) : ZOk sl L B:=by
 obtain ⟨F,G,h⟩:=h
 exact ⟨h.a.okW,h.a.okF,hc⟩
theorem pvq_below {w' : World} (h : PVQ Lo Z z p f q sl L B sl' L' B' w) (hb : Below w.heap.size w w') : PVQ Lo Z z p f q sl L B sl' L' B' w' ∧ Below Lo w w' ∧ KeepZ Z w w':=Sep.below (own_V _ _ _ _ _ _) (own_Q _ _ _ _) h hb
theorem pvq_start {w w1 w2 : World} {F : List Nat} (h : RepV z p f [] [] [] w1 F) (hF : ∀ y ∈ F,w.heap.size ≤ y) (hb : Below w.heap.size w w1) (h2 : w1.alloc (.cells #[.slice none 0 0,.slice none 0 0,.slice none 0 0,.slice none 0 0] 47) = w2) :
  PVQ w.heap.size [] z p f w1.heap.size [] [] [] [] [] [] w2 ∧ Below w.heap.size w w2:=by
 have hlt:=h.lt
 have hs:=hb.size
 have hb2 : Below w1.heap.size w1 w2:=by rw [← h2];exact (Below.refl _ _).alloc (Nat.le_refl _) _
 have hq : w2.heap[w1.heap.size]? = some (.cells #[.slice none 0 0,.slice none 0 0,.slice none 0 0,.slice none 0 0] 47 (0,0)):=by rw [← h2];exact heap_alloc_new w1 _
 have hr : ∀ E k,w2.ownsRow 0 E k (.slice none 0 0) 0 []:=fun E k => ⟨(Nat.zero_mul k).symm,.inl ⟨rfl,rfl⟩⟩
 refine ⟨⟨F,[w1.heap.size],⟨h.below hb2,⟨.slice none 0 0,[w1.heap.size],⟨.slice none 0 0,[w1.heap.size],⟨.slice none 0 0,.slice none 0 0,hq,hr _ _,hr _ _,rfl,by simp⟩,hr _ _,by simp [Value.ownBlock],by simp⟩,hr _ _,by simp [Value.ownBlock],by simp [Value.ownBlock]⟩,fun y hy e => ?_,fun y hy => ⟨hF y hy,by simp⟩,fun y hy => ?_,by have:=hb2.size;omega,by simp⟩⟩,hb.trans (hb2.mono hs)⟩
 ·have:=hlt y hy;simp at e;omega
 ·simp at hy;subst hy;exact ⟨hs,by simp⟩
variable {d K a0 a1 a2 a3 a4 a5 a6 a7 s g ts tg kd n r0 r1 e0 : Int}
theorem pv_do (h : PVQ Lo Z z p f q sl L B sl' L' B' w) (hD : DoAt sl L B d K a0 a1 a2 a3 a4 a5 a6 a7 s g ts tg kd n sl2 L2 B2 r0 r1 e0) :
  Calls Tryz.prog 14 #[.pointer (some ⟨z,0,none⟩),.agg #[.int .i64 d,.int .i64 K,.int .i64 a0,.int .i64 a1,.int .i64 a2,.int .i64 a3,.int .i64 a4,.int .i64 a5,.int .i64 a6,.int .i64 a7,.int .i64 s,.int .i64 g,.int .i64 ts,.int .i64 tg,.int .i64 kd,.int .i64 n]] w (fun e w' => e = .returned (.tuple #[.agg #[.int .i64 r0,.int .i64 r1],.int .i64 e0]) ∧ PVQ Lo Z z p f q sl2 L2 B2 sl' L' B' w' ∧ Below Lo w w' ∧ KeepZ Z w w') :=
 Sep.callL (own_V _ _ _ _ _ _) (own_Q _ _ _ _) h fun _ hF => hD.v hF
theorem pq_do (h : PVQ Lo Z z p f q sl L B sl' L' B' w) (hD : DoAt sl' L' B' d K a0 a1 a2 a3 a4 a5 a6 a7 s g ts tg kd n sl2 L2 B2 r0 r1 e0) :
  Calls Tryz.prog 15 #[.pointer (some ⟨q,0,none⟩),.agg #[.int .i64 d,.int .i64 K,.int .i64 a0,.int .i64 a1,.int .i64 a2,.int .i64 a3,.int .i64 a4,.int .i64 a5,.int .i64 a6,.int .i64 a7,.int .i64 s,.int .i64 g,.int .i64 ts,.int .i64 tg,.int .i64 kd,.int .i64 n]] w (fun e w' => e = .returned (.tuple #[.agg #[.int .i64 r0,.int .i64 r1],.int .i64 e0]) ∧ PVQ Lo Z z p f q sl L B sl2 L2 B2 w' ∧ Below Lo w w' ∧ KeepZ Z w w') :=
 Sep.callR (own_V _ _ _ _ _ _) (own_Q _ _ _ _) h fun _ hF => hD.q hF
end
def RepX (z : Nat) (sl : Sl) (L : List Rw) (B : List Bd) (w : World) (F : List Nat) : Prop:=∃ p f,RepV z p f sl L B w F
theorem own_X (z : Nat) (sl : Sl) (L : List Rw) (B : List Bd) : Own (RepX z sl L B):=⟨fun ⟨p,f,h⟩ hm hd => ⟨p,f,h.mod hm hd⟩,fun ⟨_,_,h⟩ => h.lt⟩
section
variable {z p f : Nat} {sl : Sl} {L : List Rw} {B : List Bd} {w : World} {F : List Nat}
end
end Go.Proofs.YtehjfmjibiafdaaGreat
