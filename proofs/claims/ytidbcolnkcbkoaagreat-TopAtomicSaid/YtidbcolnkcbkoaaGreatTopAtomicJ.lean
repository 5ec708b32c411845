import Derived.Test.YtidbcolnkcbkoaaGreatTopAtomicJ32
import Derived.Lib.SmallJoins
/- A part of the proof that TopAtomic returns true. -/
namespace Go.Proofs.YtidbcolnkcbkoaaGreat
open Go Go.RowKit Go.ChangeShapes Go.WideShapes Go.ChangeAt
attribute [local go_sem] AllFrom.cons_eq AllFrom.nil_eq putF_nil putF_cons wantedL_none wantedL_some OpGoalT OpGoalV OpGoalQ OpGoalA OpGoalK YieldsR preF_nil preF_cons
theorem allO_fine {sl : Sl} {L : List Rw} {B : List Bd} {l : List Ov} {n : Int} {sl' : Sl} {L' : List Rw} {B' : List Bd} (h : AllO sl L B l n 0 sl' L' B') : n = (l.length : Int):=by
 rcases h with ⟨-,-,h,-⟩ | ⟨-,s1,L1,B1,hA,-⟩
 ·cases h
 ·have:=allAt_ok hA;omega
theorem allO_err {sl : Sl} {L : List Rw} {B : List Bd} {l : List Ov} {n e : Int} {sl' : Sl} {L' : List Rw} {B' : List Bd} (h : AllO sl L B l n e sl' L' B') (he : e ≠ 0) : sl = sl' ∧ L = L' ∧ B = B' ∧ ∃ j : Nat,n = (j : Int) ∧ j < l.length ∧ ∃ s2 L2 B2,AllO sl L B (l.take j) (j : Int) 0 s2 L2 B2:=by
 rcases h with ⟨h1,rfl,rfl,rfl,rfl,rfl⟩ | ⟨h1,s1,L1,B1,hA,hc⟩
 ·exact ⟨rfl,rfl,rfl,0,rfl,by omega,_,_,_,.inr ⟨by simp,_,_,_,⟨rfl,rfl,rfl,rfl,rfl⟩,.inl ⟨rfl,rfl,rfl,rfl⟩⟩⟩
 ·rcases hc with ⟨h2,-⟩ | ⟨-,rfl,rfl,rfl⟩
  ·exact absurd h2 he
  ·obtain ⟨j,h3,h4,s2,L2,B2,h5⟩:=allAt_err hA he
   have e : n = (j : Int):=by omega
   subst e
   exact ⟨rfl,rfl,rfl,j,rfl,h4,s2,L2,B2,.inr ⟨by rw [List.length_take];omega,s2,L2,B2,h5,.inl ⟨rfl,rfl,rfl,rfl⟩⟩⟩
structure IS1 (m : Nat) (w0 : World) (sl : Sl) (L : List Rw) (B : List Bd) (Lf : Nat → Bool) (σ : Nat → Value) (V : World) : Prop where
 b : Below w0.heap.size w0 V
 r : Lf m = true → ∃ u1 u2 u3,σ m = .agg #[u1,u2,u3] ∧ V.ownsRow w0.heap.size 3 1 u1 (gensS sl).length (ints (gensS sl)) ∧ V.ownsRow w0.heap.size 63 11 u2 L.length (L.flatMap rwC) ∧ V.ownsRow w0.heap.size 84 4 u3 B.length (B.flatMap bdC)
section
variable {m : Nat} {w0 V V' : World} {sl : Sl} {L : List Rw} {B : List Bd} {Lf : Nat → Bool} {σ : Nat → Value}
theorem IS1.start (h : Below w0.heap.size w0 V) : IS1 m w0 sl L B (fun _ => false) σ V:=⟨h,fun e => (by cases e)⟩
theorem IS1.read (h : IS1 m w0 sl L B Lf σ V) {i : Nat} (hi : m ≠ i) (v : Value) : IS1 m w0 sl L B (upd Lf i) (updv σ i v) V:=by
 have e : upd Lf i m = Lf m:=by unfold upd;simp [hi]
 have e2 : updv σ i v m = σ m:=by unfold updv;rw [if_neg hi]
 exact ⟨h.b,by rw [e,e2];exact h.r⟩
theorem IS1.call (h : IS1 m w0 sl L B Lf σ V) {i : Nat} (hi : m ≠ i) (hb : Below V.heap.size V V') (v : Value) : IS1 m w0 sl L B (upd Lf i) (updv σ i v) V':=by
 have e : upd Lf i m = Lf m:=by unfold upd;simp [hi]
 have e2 : updv σ i v m = σ m:=by unfold updv;rw [if_neg hi]
 refine ⟨h.b.trans (hb.mono h.b.size),fun h1 => ?_⟩
 rw [e] at h1
 rw [e2]
 obtain ⟨u1,u2,u3,k0,k1,k2,k3⟩:=h.r h1
 exact ⟨u1,u2,u3,k0,row_mod k1 (Mod.ofBelow hb) (by simp),row_mod k2 (Mod.ofBelow hb) (by simp),row_mod k3 (Mod.ofBelow hb) (by simp)⟩
theorem IS1.got (h : IS1 m w0 sl L B Lf σ V) {v1 v2 v3 : Value} (h1 : V'.ownsRow V.heap.size 3 1 v1 (gensS sl).length (ints (gensS sl))) (h2 : V'.ownsRow V.heap.size 63 11 v2 L.length (L.flatMap rwC)) (h3 : V'.ownsRow V.heap.size 84 4 v3 B.length (B.flatMap bdC)) (hb : Below V.heap.size V V') : IS1 m w0 sl L B (upd Lf m) (updv σ m (.agg #[v1,v2,v3])) V':=by
 have e : updv σ m (.agg #[v1,v2,v3]) m = .agg #[v1,v2,v3]:=by unfold updv;simp
 have hs:=h.b.size
 exact ⟨h.b.trans (hb.mono hs),fun _ => ⟨v1,v2,v3,e,row_base h1 (fun k hk => Nat.le_trans hs (own_ge h1 k hk)),row_base h2 (fun k hk => Nat.le_trans hs (own_ge h2 k hk)),row_base h3 (fun k hk => Nat.le_trans hs (own_ge h3 k hk))⟩⟩
end
set_option maxRecDepth 100000 in
set_option maxHeartbeats 8000000 in
theorem topAtomic_ok (A1 : Option Addr) (c1 : Nat) (l1 : List Ov) (A2 : Option Addr) (c2 : Nat) (l2 : List Ov) (w : World) (hl1 : l1.length * 128 ≤ 140737488351232) (hl2 : l2.length * 128 ≤ 140737488351232) (hnc : l2.length ≤ c2) (hcc : c2 ≤ 9223372036854775807) (hA1 : Lies w w.heap.size A1 (l1.flatMap opC)) (hA2 : Lies w w.heap.size A2 (l2.flatMap opC)) (hR1 : ∀ x ∈ l1,HdR x.2.2.1 ∧ HdR x.2.2.2.1) (hR2 : ∀ x ∈ l2,HdR x.2.2.1 ∧ HdR x.2.2.2.1) :
  Calls Tryz.prog 3 #[.slice A1 l1.length c1,.slice A2 l2.length c2] w fun e w' => e = .returned (.bool true) ∧ Below w.heap.size w w':=by
 have H1:=Lib.hid (works_any w)
 have hb2 : l2.length ≤ 9223372036854775807:=by omega
 have hb1 : l1.length ≤ 9223372036854775807:=by omega
 obtain ⟨HA1,HA2,HR1,HR2,HL1⟩:=hid5 hA1 hA2 hR1 hR2 hb1
 clear hA1 hA2 hR1 hR2 hb1
 clear hl1
 go_enter Tryz.func3,Tryz.ntmps3
 go_wp2_with fail
 refine H1.out.mono ?_
 rintro e w1 ⟨rfl,hw⟩
 have H2:=Lib.hid (done_any A1 c1 l1 w1 HL1.out ((HA1.out.below hw).mono hw.size) HR1.out)
 have HB1:=Lib.hid hw
 clear hw
 clear H1
 go_wp2_with fail
 refine H2.out.mono ?_
 rintro e w2 ⟨z,F,sl,R,B,rfl,hX,hF,hb,hO,hq⟩
 have hB2:=HB1.out.trans (hb.mono HB1.out.size)
 have hge : ∀ y ∈ F,w.heap.size ≤ y:=fun y hy => Nat.le_trans HB1.out.size (hF y hy)
 have H3:=Lib.hid (vx_state hX hO.len)
 obtain ⟨HX,HO,Hq,HB2,Hge⟩:=hid5 hX hO hq hB2 hge
 clear hX hO hq hB2 hge
 clear hF hb H2
 go_wp2_with fail
 refine H3.out.mono ?_
 rintro e w3 ⟨v1,v2,v3,rfl,g1,g2,g3,hb3⟩
 obtain ⟨A7,k7,rfl,-,-⟩:=row_slice g1
 obtain ⟨A8,k8,rfl,-,-⟩:=row_slice g2
 obtain ⟨A9,k9,rfl,-,-⟩:=row_slice g3
 obtain ⟨w4,hw4,hb4,hz4,hs4⟩:=box1 w3 (.cells #[.slice A7 (gensS sl).length k7,.slice A8 R.length k8,.slice A9 B.length k9] 30)
 have hlF:=HX.out.elim fun p h => h.elim fun f h => h.lt
 have hX4 : RepX z sl R B w4 F:=(own_X _ _ _ _).mod ((own_X _ _ _ _).mod HX.out (Mod.ofBelow hb3) (by simp)) (Mod.ofBelow hb4) (by simp)
 have hb34:=hb3.trans (hb4.mono hb3.size)
 have hB4:=HB2.out.trans (hb34.mono HB2.out.size)
 have hg1:=row_mod g1 (Mod.ofBelow hb4) (by simp)
 have hg2:=row_mod g2 (Mod.ofBelow hb4) (by simp)
 have hg3:=row_mod g3 (Mod.ofBelow hb4) (by simp)
 have hsz3:=hb3.size
 obtain ⟨n,e0,sl',R',B',hall⟩:=allO_any HO.out l2 HR2.out
 have H4:=Lib.hid (vx_all hX4 HO.out Hq.out A2 c2 l2 hb2 ((HA2.out.below hB4).mono hB4.size) hall)
 obtain ⟨Hz4,HB4,Hg1,Hg2,Hg3,Hall,HlF,Hsz3⟩:=hid8 hz4 hB4 hg1 hg2 hg3 hall hlF hsz3
 clear hz4 hB4 hg1 hg2 hg3 hall hlF hsz3
 clear hX4 g1 g2 g3 hb3 hb4 hb34 hs4 H3
 go_wp2_with fail
 clear hw4
 refine H4.out.mono ?_
 rintro e w5 ⟨rfl,F5,hX5,hT5⟩
 have hB5:=HB4.out.trans (hT5.mod.toBelow Hge.out HB4.out.size)
 have hfr : ∀ k,w2.heap.size ≤ k → k ∉ F:=fun k hk e => by have:=HlF.out k e;omega
 have hz5:=hT5.mod.keep Hz4.out (hfr _ Hsz3.out)
 have hg1:=row_mod Hg1.out hT5.mod (fun k hk => hfr k (own_ge Hg1.out k hk))
 have hg2:=row_mod Hg2.out hT5.mod (fun k hk => hfr k (own_ge Hg2.out k hk))
 have hg3:=row_mod Hg3.out hT5.mod (fun k hk => hfr k (own_ge Hg3.out k hk))
 by_cases he : e0 = 0
 ·subst he
  have hn:=allO_fine Hall.out
  subst hn
  have HB5:=Lib.hid hB5
  clear hB5
  clear hX5 hT5 hz5 hg1 hg2 hg3 hfr
  go_wp2
  go_ret
  exact ⟨by simp,HB5.out⟩
 ·obtain ⟨rfl,rfl,rfl,j,rfl,hj,s2,L2,B2,hall2⟩:=allO_err Hall.out he
  obtain ⟨ab,ao,rfl,-,-⟩:=HA2.out.rec_at opC_len (by omega) (k:=0) (by omega)
  have hge5 : ∀ y ∈ F5,w.heap.size ≤ y:=fun y hy => (hT5.new y hy).elim (Hge.out y) (Nat.le_trans HB4.out.size)
  have heb : (e0 == 0) = false:=by simpa using he
  obtain ⟨y0,y1,y2,yl⟩:=cells3 hz5
  have hji : (j : Int) < (l2.length : Int):=by omega
  have hj0 : ¬ (j : Int) < 0:=by omega
  have hjl : ¬ (l2.length : Int) ≤ (j : Int):=by omega
  obtain ⟨Hz5,HB5,HG1,HG2,HG3,HX5,Hall2,Hge5⟩:=hid8 hz5 hB5 hg1 hg2 hg3 hX5 hall2 hge5
  clear hz5 hB5 hg1 hg2 hg3 hX5 hall2 hge5
  clear hT5 hfr he
  go_wp2_with fail
  refine wp_planK [2] 13 [1] [some 31,some 32,some 33,some 34,some 35,some 36,some 37,some 38,some 39,some 40,some 41,some 42,some 43,some 44,some 45] [[],[],[1],[0,1,2],[0,1,2,3],[0,1,2,3,4],[0,1,2,3,4,5],[0,1,2,3,4,5,6],[0,1,2,3,4,5,6,7],[0,1,2,3,4,5,6,7,8],[0,1,2,3,4,5,6,7,8,9],[0,1,2,3,4,5,6,7,8,9],[0,1,2,3,4,5,6,7,8,9,11],[0,1,2,3,4,5,6,7,8,9,10,11,12],[0,1,2,3,4,5,6,7,8,9,10,11,12,13]] [0,1,2,3,4,5,6,7,8,9,10,11,12] (fun Lf σ W => IS1 2 w5 sl R B Lf σ W) mixed rfl (by kernel_rfl) (by decide) (by decide) (by decide) (IS1.start below_drew) rfl ?_
  iterate 13 apply Exists.intro
  refine ⟨rfl,?_,?_⟩
  ·simp only [tS,List.take_zero,AllFrom.cons_eq,AllFrom.nil_eq,OpGoalK]
   refine ⟨?_,?_,?_,?_,?_,?_,?_,?_,?_,?_,?_,?_,?_,trivial⟩
   all_goals (intro L' σ V h1 h2 h3 hI hp;have HA1:=Lib.hid h1;have HA2:=Lib.hid h2;have HA3:=Lib.hid h3;clear h1 h2 h3;(try simp only [gZ,gS,preK_cons,preK_nil] at hp);(try simp only [List.mem_cons,List.not_mem_nil,or_false,eq_self,Nat.reduceEqDiff,Nat.reduceAdd,Nat.zero_add,false_or,true_or,true_and,and_true] at hp);(first | (have hq : True:=hp;clear hq hp) | skip);have HI:=Lib.hid hI;clear hI)
   all_goals (
    have hzV:=(Mod.ofBelow HI.out.b).keep Hz5.out (by simp)
    have hXV:=(own_X _ _ _ _).mod HX5.out (Mod.ofBelow HI.out.b) (by simp)
    have y0:=blk_cell hzV 0
    have y1:=blk_cell hzV 1
    have y2:=blk_cell hzV 2
    simp only [eA,eZ,eS] at y0 y1 y2
    have yl:=blk_lt hzV
    have HXV:=Lib.hid hXV
    clear hzV hXV)
   iterate 2 · (go_simp;exact ⟨.inr rfl,HI.out.read (by decide) _⟩)
   ·go_simp
    refine (vx_state HXV.out HO.out.len).mono ?_
    rintro e V' ⟨u1,u2,u3,rfl,k1,k2,k3,hb⟩
    exact ⟨_,rfl,PostK.mk (c:=undef) (.inl (by decide)) (HI.out.got k1 k2 k3 hb)⟩
   ·have hr:=HI.out.r (HA2.out 2 (by decide))
    have h1:=Classical.choose_spec hr
    have h2:=Classical.choose_spec h1
    have h3:=Classical.choose_spec h2
    generalize Classical.choose hr = u1 at *
    generalize Classical.choose h1 = u2 at *
    generalize Classical.choose h2 = u3 at *
    have HS:=Lib.hid (same_any HO.out (row_mod HG1.out (Mod.ofBelow HI.out.b) (by simp)) (row_mod HG2.out (Mod.ofBelow HI.out.b) (by simp)) (row_mod HG3.out (Mod.ofBelow HI.out.b) (by simp)) h3.2.1 h3.2.2.1 h3.2.2.2)
    have s2:=h3.1
    clear h3 h2 h1 hr
    go_simp
    try simp only [s2]
    try go_simp
    refine HS.out.mono ?_
    rintro e V' ⟨rfl,hb⟩
    exact ⟨_,rfl,.inr rfl,HI.out.call (by decide) hb _⟩
   iterate 9 · (go_simp;exact ⟨.inr rfl,HI.out.read (by decide) _⟩)
  ·intro L' σ w6 h1 hI hp
   have hb:=hI.b
   clear h1 hI
   simp only [preK_cons,preK_nil,gZ,gS] at hp;simp only [List.mem_cons,List.not_mem_nil,or_false,eq_self,Nat.reduceEqDiff,false_or,true_or,true_and,and_true] at hp
   have hX6:=(own_X _ _ _ _).mod HX5.out (Mod.ofBelow hb) (by simp)
   have hB6:=HB5.out.trans (hb.mono HB5.out.size)
   have HX6:=Lib.hid hX6
   clear hb
   simp only [dS,List.drop_zero]
   go_simp
   clear hp
   have hjc : (j : Int) ≤ (c2 : Int):=by omega
   have hL6 : Lies w6 w6.heap.size (some ⟨ab,ao,none⟩) ((l2.take j).flatMap opC):=fun i u hu => by
    rw [← flatV_take opC_len,List.getElem?_take] at hu
    split at hu
    ·exact ((HA2.out.below hB6).mono hB6.size) i u hu
    ·cases hu
   have h7:=vx_all hX6 HO.out Hq.out (some ⟨ab,ao,none⟩) c2 (l2.take j) (by rw [List.length_take];omega) hL6 Hall2.out
   rw [List.length_take,Nat.min_eq_left (by omega)] at h7
   have H7:=Lib.hid h7
   have hcc2 : (c2 : Int) ≤ 9223372036854775807:=by omega
   have HB6:=Lib.hid hB6
   clear hB6
   clear h7 hX6 hL6
   go_wp2_with fail
   refine ⟨rfl,?_⟩
   go_wp2_with fail
   refine H7.out.mono ?_
   rintro e w7 ⟨rfl,F7,hX7,hT7⟩
   have hB7:=HB6.out.trans (hT7.mod.toBelow Hge5.out HB6.out.size)
   have HB7:=Lib.hid hB7
   clear hB7
   clear hX7 hT7
   go_wp2
   go_ret
   exact ⟨by simp,HB7.out⟩
set_option maxRecDepth 100000 in
theorem topAtomic_law {H : Type} {enc : TypeId × Value → H} (W : World) (base : Nat) (args : Array Value) (ds : List (DataW H)) (ps : List MemPlace)
  (hval : ∀ (j : Nat) t v,Tryz.f3.params[j]? = some t → args[j]? = some v → Value.okWide Tryz.prog W .any base t v)
  (hA : DataW.TrodAll enc Tryz.prog W 0 (fun _ => true) true Tryz.f3.params.toList args.toList ds ps) (hlt : ∀ p ∈ ps,p.block < W.heap.size)
  (hsz : ∀ (j : Nat) t d,Tryz.f3.params.toList[j]? = some t → ds[j]? = some d → ∀ m ∈ d.weights Tryz.prog t,m ≤ reachBytes) :
  Calls Tryz.prog 3 args W fun e W' => e = .returned (.bool true) ∧ Below W.heap.size W W':=by
 rw [Tryz.params3] at hA hval hsz
 obtain ⟨v0,v1,d0,d1,p0,p1,rfl,rfl,rfl,h0,h1⟩:=trodAll_two hA
 obtain ⟨A,n,c,zs,rfl,hnc,hc,hlen,hin,hL⟩:=open_slice_flat Tryz.underlying22 intCells_Op (k:=16) (by kernel_rfl) (by omega) (hval 0 22 v0 rfl rfl) h0 (fun p hp => hlt p (by simp [hp]))
 obtain ⟨la,hl,rfl⟩:=unflat opI 16 opI_mk n zs hlen
 have hs0:=slice_size Tryz.underlying22 h0 (hsz 0 22 d0 rfl rfl)
 rw [show Tryz.prog.bytesOf 45 = 128 by kernel_rfl,reach_val] at hs0
 rw [show ints (la.flatMap opI) = la.flatMap opC by unfold ints opC;rw [List.map_flatMap];rfl] at hL
 obtain ⟨A',n',c',zs',rfl,hnc',hc',hlen',hin',hL'⟩:=open_slice_flat Tryz.underlying22 intCells_Op (k:=16) (by kernel_rfl) (by omega) (hval 1 22 v1 rfl rfl) h1 (fun p hp => hlt p (by simp [hp]))
 obtain ⟨lb,hl',rfl⟩:=unflat opI 16 opI_mk n' zs' hlen'
 have hs1:=slice_size Tryz.underlying22 h1 (hsz 1 22 d1 rfl rfl)
 rw [show Tryz.prog.bytesOf 45 = 128 by kernel_rfl,reach_val] at hs1
 rw [show ints (lb.flatMap opI) = lb.flatMap opC by unfold ints opC;rw [List.map_flatMap];rfl] at hL'
 subst hl hl'
 have hR : ∀ (l : List Ov),(∀ z ∈ l.flatMap opI,InR z) → ∀ x ∈ l,HdR x.2.2.1 ∧ HdR x.2.2.2.1:=fun l hin x hx => by
  have hz : ∀ z ∈ opI x,InR z:=fun z hz => hin z (List.mem_flatMap.2 ⟨x,hx,hz⟩)
  obtain ⟨d,⟨K,a0,a1,a2,a3,a4,a5,a6,a7⟩,⟨s,g⟩,⟨ts,tg⟩,kd,n⟩:=x
  exact ⟨⟨hz s (by simp [opI,btI,hdI]),hz g (by simp [opI,btI,hdI])⟩,⟨hz ts (by simp [opI,btI,hdI]),hz tg (by simp [opI,btI,hdI])⟩⟩
 exact topAtomic_ok A c la A' c' lb W hs0 hs1 hnc' (by omega) hL hL' (hR la hin) (hR lb hin')
set_option maxRecDepth 100000 in
theorem topAtomic_lifted (os : Os) (started : os.Started) (H : Type) (enc : TypeId × Value → H) :
  ReturnsInLeavingWide {} Tryz.checked os 3 .any (Rows.topAtomicSpec.pre6 enc Tryz.prog Tryz.f3 Rows.topAtomicRow.domain false) (Rows.topAtomicSpec.post enc Tryz.prog Tryz.f3 false true false false):=by
 refine ReturnsInHanded.leaving (law_lifted_sized (C:=Tryz.checked) (tb:=4) started own_ laid_ (by kernel_rfl) Tryz.func3 ?_ rfl rfl (by kernel_rfl) (fun ds h => ?_)
  (ChangeSpec.witness6 (enc:=enc) (C:=Tryz.checked) false ⟨#[],#[.slice none 0 0,.slice none 0 0],[]⟩ 8 (by kernel_rfl) (by kernel_rfl) (by kernel_rfl) (by kernel_rfl)) ?_)
 ·intro t ht
  have : t = 22 ∨ t = 22:=by simpa [Tryz.params3] using ht
  rcases this with rfl | rfl
  all_goals exact ⟨by kernel_rfl,of_decide_eq_true (by kernel_rfl)⟩
 ·match ds,h with
  | [d0,d1],_ => rfl
 ·intro W base args ds ps hval hA hlt hsz
  exact topAtomic_law W base args ds ps hval hA hlt hsz
set_option maxHeartbeats 4000000 in
theorem topAtomic_closed : joinedFacts Tryz.prog 3 Tryz.f3 Rows.topAtomicSpec Rows.topAtomicRow = true:=by
 unfold joinedFacts
 repeat' (with_reducible refine and_intro ?_ ?_)
 ·as_aux_lemma => kernel_rfl
 ·exact laid_
 ·exact mapsRowed_
 ·as_aux_lemma => kernel_rfl
 ·as_aux_lemma => kernel_rfl
 ·as_aux_lemma => kernel_rfl
 ·exact stops_
 ·as_aux_lemma => kernel_rfl
 ·exact stopKnobs_
 ·as_aux_lemma => kernel_rfl
 ·as_aux_lemma => kernel_rfl
 ·as_aux_lemma => kernel_rfl
 ·as_aux_lemma => kernel_rfl
 ·as_aux_lemma => kernel_rfl
 ·as_aux_lemma => kernel_rfl
 ·as_aux_lemma => kernel_rfl
 ·as_aux_lemma => kernel_rfl
 ·as_aux_lemma => kernel_rfl
 ·as_aux_lemma => kernel_rfl
 ·as_aux_lemma => kernel_rfl
 ·as_aux_lemma => kernel_rfl
 ·as_aux_lemma => kernel_rfl
 ·exact plainKeys_
 ·as_aux_lemma => kernel_rfl
 ·exact stopsHeard_
 ·exact mayEnter_
 ·exact liftsFinal_
 ·exact make_
 ·as_aux_lemma => kernel_rfl
 ·as_aux_lemma => kernel_rfl
 ·as_aux_lemma => kernel_rfl
 ·as_aux_lemma => kernel_rfl
theorem topAtomic_holds : Rows.TopAtomicSaid :=
 OpenClaim.holds_of_wide_leaving 3 Tryz.f3 rfl rfl rfl rfl rfl rfl rfl ⟨rfl,rfl,rfl,rfl,rfl⟩ rfl rfl rfl rfl rfl (by as_aux_lemma => kernel_rfl) Tryz.func3 topAtomic_closed
  (of_decide_eq_true (by as_aux_lemma => kernel_rfl)) (by unfold Func.isWrapper;first | (rw [if_pos (by decide +kernel)];kernel_rfl) | (rw [if_neg (by decide +kernel)];exact ⟨rfl,rfl⟩))
  (fun os started H enc _ => topAtomic_lifted os started H enc)
#print axioms topAtomic_holds
end Go.Proofs.YtidbcolnkcbkoaaGreat
