import Derived.Test.YtfdillpofciicaaGreatDoorTopSavedJ32
import Derived.Lib.ItoaNum
import Derived.Lib.AtoiAll
import Derived.Lib.AtoiAllCases
import Derived.Lib.IndexMore
import Derived.Lib.IndexLaws
import Derived.Lib.SplitLaws
set_option linter.unusedVariables false
set_option linter.unusedSimpArgs false
/- A part of the proof that TopSaved returns true. -/
namespace Go.Proofs.YtfdillpofciicaaGreatDoor
open Go Go.RowKit
attribute [local go_sem] AllFrom.cons_eq AllFrom.nil_eq putF_nil putF_cons wantedL_none wantedL_some OpGoalT OpGoalV OpGoalQ OpGoalA OpGoalK YieldsR preF_nil preF_cons
theorem eqlArr (w : World) (a b : List Int) (ha : a.length = 8) (hb : b.length = 8) : (binOp .eql 43 (.agg (ints a).toArray) (.agg (ints b).toArray)).run Tryz.prog w = .ok (.bool (eqB a b)) w :=
 (esArr 9998).eqlI w a b ha hb rfl rfl
def DoneP (w : World) (e : Ending) (w' : World) : Prop:=∃ z F sl R B,e = .returned (.pointer (some ⟨z,0,none⟩)) ∧ RepX z sl R B w' F ∧ (∀ y ∈ F,w.heap.size ≤ y) ∧ Below w.heap.size w w' ∧ ZOk sl R B ∧ ∀ b ∈ B,b.2 ∈ allS sl
set_option maxRecDepth 100000 in
set_option maxHeartbeats 4000000 in
theorem done_any (A : Option Addr) (c : Nat) (l : List Ov) (w : World) (hl : l.length ≤ 9223372036854775807) (hA : Lies w w.heap.size A (l.flatMap opC)) (hR : ∀ x ∈ l,HdR x.2.2.1 ∧ HdR x.2.2.2.1) :
  Calls Tryz.prog 12 #[.slice A l.length c] w (DoneP w):=by
 have H1:=Lib.hid (zooNew_any w)
 obtain ⟨HA,HR⟩:=hid2 hA hR
 clear hA hR
 go_enter Tryz.func12,Tryz.ntmps12
 go_wp2_with fail
 refine H1.out.mono ?_
 rintro e w1 ⟨z,p,f,F,rfl,hW,hF,hb⟩
 have hX : RepX z [] [] [] w1 F:=⟨p,f,hW⟩
 obtain ⟨HX,HF,Hb⟩:=hid3 hX hF hb
 clear hX hF hb
 clear hW H1
 go_wp2_with fail
 go_loopw [11] (fun i wr => ∃ (k : Nat) (sl : Sl) (R : List Rw) (B : List Bd),k ≤ l.length ∧ i = .int .i64 k ∧ OwnPost (RepX z sl R B) F w1 wr ∧ ZOk sl R B ∧ (∀ b ∈ B,b.2 ∈ allS sl)) (fun i _ => l.length - (Go.RowKit.intOf i).toNat)
 case atStart => exact ⟨0,[],[],[],by omega,rfl,OwnPost.ofBelow (own_X _ _ _ _) HX.out (Below.refl _ _),⟨wok_nil,famOk_nil,by simp⟩,by simp⟩
 case round =>
  obtain ⟨k,sl,R,B,hk,rfl,hOP,hO,hq⟩:=hrel
  have hB : Below w.heap.size w wr:=Hb.out.trans (hOP.mod.toBelow HF.out Hb.out.size)
  by_cases hlt : k < l.length
  ·obtain ⟨ab,ao,rfl,hal,hc⟩:=HA.out.rec_at opC_len (by omega) hlt
   have hqq : ∀ j u,(opC l[k])[j]? = some u → wr.cell? ((⟨ab,ao + k * 16,none⟩ : Addr).add j) = some u:=fun j u hu => (hB.cell (p:=(⟨ab,ao + k * 16,none⟩ : Addr).add j) (by rw [add_block];exact hal)).trans (by first | exact hc j u hu | (have:=hc j u hu;rw [Addr.add_mid];exact this))
   have hxr:=HR.out _ (List.getElem_mem hlt)
   have hki : (k : Int) < (l.length : Int):=by omega
   generalize l[k] = x at *
   obtain ⟨d,⟨K,a0,a1,a2,a3,a4,a5,a6,a7⟩,⟨s,g⟩,⟨ts,tg⟩,kd,n⟩:=x
   obtain ⟨sl',R',B',h1,e0,hD⟩:=doO_any hO (d,(K,a0,a1,a2,a3,a4,a5,a6,a7),(s,g),(ts,tg),kd,n) hxr.1 hxr.2
   obtain ⟨r0,r1⟩:=h1
   obtain ⟨w3,hw3,hb3,hk3,hs3⟩:=box1 wr (.cells #[.int .i64 d,.int .i64 K,.int .i64 a0,.int .i64 a1,.int .i64 a2,.int .i64 a3,.int .i64 a4,.int .i64 a5,.int .i64 a6,.int .i64 a7,.int .i64 s,.int .i64 g,.int .i64 ts,.int .i64 tg,.int .i64 kd,.int .i64 n] 49)
   obtain ⟨F1,hX1,hT1⟩:=hOP
   have H7:=Lib.hid (vx_do ((own_X _ _ _ _).mod hX1 (Mod.ofBelow hb3) (by simp)) hD)
   have hT3:=hT1.below hb3
   have hO':=hD.at_.ok hO
   have hq':=hD.at_.par hq
   obtain ⟨c0,c1,c2,c3,c4,c5,c6,c7,c8,c9,c10,c11,c12,c13,c14,c15,cl⟩:=cells16 hk3
   obtain ⟨HQ,Hw3,Hs3,HT3,HO',Hq'⟩:=hid6 hqq hw3 hs3 hT3 hO' hq'
   clear hqq hw3 hs3 hT3 hO' hq'
   have Hlt:=Lib.hid hlt
   clear hc hB hX1 hT1 hb3 hxr hO hq hk3 hal hD
   go_wp2_with (first | (refine wpList_load_flat rfl 49 (.tmp 13) rfl _ rfl (opC (d,(K,a0,a1,a2,a3,a4,a5,a6,a7),(s,g),(ts,tg),kd,n)) _ Tryz.underlying49 rfl (sz_Op _) HQ.out ?_) | (refine wpList_store_new rfl 49 (.tmp 5) (.tmp 14) rfl wr (ints [0,0,0,0,0,0,0,0,0,0,0,0,0,0,0,0]) (opC (d,(K,a0,a1,a2,a3,a4,a5,a6,a7),(s,g),(ts,tg),kd,n)) 49 rfl rfl rfl (sz_Op _) (opC_one _) ?_;rw [show (opC (d,(K,a0,a1,a2,a3,a4,a5,a6,a7),(s,g),(ts,tg),kd,n)).toArray = #[.int .i64 d,.int .i64 K,.int .i64 a0,.int .i64 a1,.int .i64 a2,.int .i64 a3,.int .i64 a4,.int .i64 a5,.int .i64 a6,.int .i64 a7,.int .i64 s,.int .i64 g,.int .i64 ts,.int .i64 tg,.int .i64 kd,.int .i64 n] from rfl,Hw3.out]) | fail)
   clear c0 c1 c2 c3 c4 c5 c6 c7 c8 c9 c10 c11 c12 c13 c14 c15 cl
   refine H7.out.mono ?_
   rintro e w4 ⟨rfl,h4⟩
   have hOP4 : OwnPost (RepX z sl' R' B') F w1 w4:=by
    obtain ⟨F4,h5,h6⟩:=h4
    exact ⟨F4,h5,HT3.out.trans h6⟩
   have HOP4:=Lib.hid hOP4
   clear hOP4
   clear h4
   go_wp2
   go_roundw
   case rel => exact ⟨k + 1,sl',R',B',by have:=Hlt.out;omega,by go_num,HOP4.out,HO'.out,Hq'.out⟩
   case measure => have:=Hlt.out;simp [Go.RowKit.intOf];omega
  ·obtain ⟨F1,hX1,hT1⟩:=hOP
   have hfin : DoneP w (.returned (.pointer (some ⟨z,0,none⟩))) wr:=⟨z,F1,sl,R,B,rfl,hX1,fun y hy => (hT1.new y hy).elim (HF.out y) (Nat.le_trans Hb.out.size),hB,hO,hq⟩
   have Hfin:=Lib.hid hfin
   clear hfin
   clear hB hX1 hT1 hO hq
   go_wp2
   go_ret
   exact Hfin.out
def ScrP (sl : Sl) (R : List Rw) (B : List Bd) (w : World) (e : Ending) (w' : World) : Prop :=
 ∃ A1 n1 c1 v2 A3 n3 c3,e = .returned (.tuple #[.agg #[.slice A1 n1 c1,v2,.slice A3 n3 c3],.int .i64 0]) ∧ w'.ownsRow 0 56 11 v2 R.length (R.flatMap rwC) ∧ Below w.heap.size w w'
set_option maxRecDepth 100000 in
set_option maxHeartbeats 4000000 in
theorem script0 (A : Option Addr) (c : Nat) (l : List Ov) (A2 : Option Addr) (c2 : Nat) (ys : List Sy) (w : World) (hl : l.length ≤ 9223372036854775807) (hly : ys.length ≤ 9223372036854775807) (hA : Lies w w.heap.size A (l.flatMap opC)) (hA2 : Lies w w.heap.size A2 (sysCells ys)) (hn : ∀ s ∈ ys,InR s.n) {n : Int} {sl : Sl} {R : List Rw} {B : List Bd} (hall : AllO [] [] [] l n 0 sl R B) (hp : planE ys = 0) :
  Calls Tryz.prog 42 #[.slice A l.length c,.slice A2 ys.length c2,.int .i64 0] w (ScrP sl (serL ys R) B w):=by
 obtain ⟨w0,hw0,hb0,hz0,hs0⟩:=box1 w (.cells #[.slice none 0 0,.slice none 0 0,.slice none 0 0] 26)
 have H1:=Lib.hid (zooNew_any w0)
 have hO0 : ZOk [] [] []:=⟨wok_nil,famOk_nil,by simp⟩
 have hO1:=(hall.ok hO0 (by simp)).1
 obtain ⟨HA,HA2,Hn,Hall,Hp,HO0,HO1,Hb0,Hz0,Hs0⟩:=hid10 hA hA2 hn hall hp hO0 hO1 hb0 hz0 hs0
 clear hA hA2 hn hall hp hO0 hO1 hb0 hz0 hs0
 obtain ⟨HL,HLy⟩:=hid2 hl hly
 clear hl hly
 go_enter Tryz.func42,Tryz.ntmps42
 go_wp2_with fail
 clear hw0
 refine H1.out.mono ?_
 rintro e w1 ⟨z,p,f,F,rfl,hW,hF,hb1⟩
 have hX : RepX z [] [] [] w1 F:=⟨p,f,hW⟩
 have hz1:=(Mod.ofBelow hb1).keep Hz0.out (by simp)
 have hb01:=Hb0.out.trans (hb1.mono Hb0.out.size)
 have hs1:=hb1.size
 have H2:=Lib.hid (vx_all hX HO0.out (by simp) A c l HL.out ((HA.out.below hb01).mono hb01.size) Hall.out)
 obtain ⟨Hz1,Hb01,HF,Hs1⟩:=hid4 hz1 hb01 hF hs1
 clear hz1 hb01 hF hs1
 clear hW hX hb1 H1
 go_wp2_with fail
 refine H2.out.mono ?_
 rintro e w2 ⟨rfl,F2,hX2,hT2⟩
 have hge : ∀ y ∈ F,w.heap.size ≤ y:=fun y hy => Nat.le_trans Hb0.out.size (HF.out y hy)
 have hb02:=Hb01.out.trans (hT2.mod.toBelow hge Hb01.out.size)
 have hge2 : ∀ y ∈ F2,w0.heap.size ≤ y:=fun y hy => (hT2.new y hy).elim (HF.out y) (Nat.le_trans Hs1.out)
 have hn0 : w.heap.size ∉ F:=fun e => by have:=HF.out _ e;have:=Hs0.out;omega
 have hz2:=hT2.mod.keep Hz1.out hn0
 have hlo : w.heap.size ≤ w2.heap.size:=hb02.size
 have H3:=Lib.hid (serial_any hX2 HO1.out.w (Lo:=w.heap.size) (fun y hy => by have:=hge2 y hy;have:=Hs0.out;omega) hlo A2 c2 ys HLy.out (HA2.out.below hb02) Hn.out)
 obtain ⟨Hz2,Hb02,Hge2⟩:=hid3 hz2 hb02 hge2
 clear hz2 hb02 hge2
 clear hX2 hT2 hge hn0 hlo H2
 go_wp2_with fail
 refine H3.out.mono ?_
 rintro e w3 ⟨rfl,F3,hX3,hT3⟩
 have hn2 : w.heap.size ∉ F2:=fun e => by have:=Hge2.out _ e;have:=Hs0.out;omega
 have hz3:=hT3.mod.keep Hz2.out hn2
 have hb03:=Hb02.out.trans (hT3.mod.toBelow (fun y hy => by have:=Hge2.out y hy;have:=Hs0.out;omega) Hb02.out.size)
 have hso : serO ys R = serL ys R:=if_pos Hp.out
 rw [hso] at hX3
 rw [Hp.out]
 have hOS : ZOk sl (serL ys R) B:=⟨serL_ok (planE_all Hp.out).2 HO1.out.w,HO1.out.f,HO1.out.c⟩
 have H4:=Lib.hid (vx_state hX3 hOS.len)
 obtain ⟨Hz3,Hb03⟩:=hid2 hz3 hb03
 clear hz3 hb03
 clear hX3 hT3 hn2 hso hOS H3
 go_wp2_with fail
 refine H4.out.mono ?_
 rintro e w4 ⟨v1,v2,v3,rfl,g1,g2,g3,hb4⟩
 have hz4:=(Mod.ofBelow hb4).keep Hz3.out (by simp)
 have hb04:=Hb03.out.trans (hb4.mono Hb03.out.size)
 obtain ⟨A7,k7,rfl,-,-⟩:=row_slice g1
 obtain ⟨A8,k8,rfl,-,-⟩:=row_slice g2
 obtain ⟨A9,k9,rfl,-,-⟩:=row_slice g3
 obtain ⟨c0,c1,c2,cl⟩:=cells3 hz4
 have f0:=blk_free hz4 0
 have f1:=blk_free hz4 1
 have f2:=blk_free hz4 2
 have h3lt : w.heap.size < w3.heap.size:=blk_lt Hz3.out
 have hrows : ∀ V,Mod [w.heap.size] w4 V → V.ownsRow 0 56 11 (.slice A8 (serL ys R).length k8) (serL ys R).length ((serL ys R).flatMap rwC):=fun V hm => row_base (row_mod g2 hm (fun k hk e => by have:=own_ge g2 k hk;simp at e;omega)) (fun _ _ => Nat.zero_le _)
 have hfin : ∀ V,Mod [w.heap.size] w4 V → ScrP sl (serL ys R) B w (.returned (.tuple #[.agg #[.slice A7 (gensS sl).length k7,.slice A8 (serL ys R).length k8,.slice A9 B.length k9],.int .i64 0])) V:=fun V hm => ⟨_,_,_,_,_,_,_,rfl,hrows V hm,hb04.trans (hm.toBelow (by simp) hb04.size)⟩
 have Hfin:=Lib.hid hfin
 clear hfin
 clear g1 g2 g3 hz4 hb4 hrows hb04 H4
 go_wp2
 refine bodyPost_ret (v:=.tuple #[.agg #[.slice A7 (gensS sl).length k7,.slice A8 (serL ys R).length k8,.slice A9 B.length k9],.int .i64 0]) (by unfold results;try go_simp) rfl (Hfin.out _ ?_)
 repeat (refine Mod.setCell ?_ (.inl (by simp)) _)
 exact Mod.refl _ _
theorem works_all : AllO [] [] [] [(1,(3,0,0,0,0,0,0,0,0),(0,0),(0,0),0,0)] 1 0 (spawnS [] (3,0,0,0,0,0,0,0,0)) (spawnL [] [] (3,0,0,0,0,0,0,0,0)) []:=by
 have h0:=doAt_spawn (sl:=[]) (L:=[]) (B:=[]) ⟨wok_nil,famOk_nil,by simp⟩ 3 0 0 0 0 0 0 0 0 0 0 0 0 0 0
 have e1 : spawnH [] (3,0,0,0,0,0,0,0,0) = (0,0):=by decide +kernel
 have e2 : spawnE [] (3,0,0,0,0,0,0,0,0) = 0:=by decide +kernel
 rw [e1,e2] at h0
 have hD : DoO [] [] [] (meanO [] (1,(3,0,0,0,0,0,0,0,0),(0,0),(0,0),0,0)) (spawnS [] (3,0,0,0,0,0,0,0,0)) (spawnL [] [] (3,0,0,0,0,0,0,0,0)) [] (0,0) 0:=h0
 have hA : AllAt [] [] [] [] 0 [(1,(3,0,0,0,0,0,0,0,0),(0,0),(0,0),0,0)] 1 0 (spawnS [] (3,0,0,0,0,0,0,0,0)) (spawnL [] [] (3,0,0,0,0,0,0,0,0)) [] :=
  .inr ⟨rfl,spawnS [] (3,0,0,0,0,0,0,0,0),spawnL [] [] (3,0,0,0,0,0,0,0,0),[],(0,0),0,hD,.inr ⟨rfl,rfl,rfl,rfl,rfl,rfl⟩⟩
 exact .inr ⟨by simp,spawnS [] (3,0,0,0,0,0,0,0,0),spawnL [] [] (3,0,0,0,0,0,0,0,0),[],hA,.inl ⟨rfl,rfl,rfl,rfl⟩⟩
theorem works_plan : planE [⟨0,0,0,0,2,1,7⟩] = 0:=by decide +kernel
theorem works_rows : serL [⟨0,0,0,0,2,1,7⟩] (spawnL [] [] (3,0,0,0,0,0,0,0,0)) = [((0,0),(3,0,7,0,0,0,0,0,0))]:=by
 decide +kernel
set_option maxRecDepth 100000 in
set_option maxHeartbeats 4000000 in
theorem works_any (w : World) : Calls Tryz.prog 11 #[] w fun e w' => e = .returned (.bool true) ∧ Below w.heap.size w w':=by
 obtain ⟨w1,hw1,hb1,hz1,hs1⟩:=box1 w (.cells #[.int .i64 1,.int .i64 3,.int .i64 0,.int .i64 0,.int .i64 0,.int .i64 0,.int .i64 0,.int .i64 0,.int .i64 0,.int .i64 0,.int .i64 0,.int .i64 0,.int .i64 0,.int .i64 0,.int .i64 0,.int .i64 0] 49)
 obtain ⟨w2,hw2,hb2,hz2,hs2⟩:=box1 w1 (.cells #[.int .i64 0,.int .i64 0,.int .i64 0,.int .i64 0,.int .i64 2,.int .i64 1,.int .i64 7] 102)
 have hb02:=hb1.trans (hb2.mono hb1.size)
 have hL1 : Lies w1 w1.heap.size (some ⟨w.heap.size,0,none⟩) (([(1,(3,0,0,0,0,0,0,0,0),(0,0),(0,0),0,0)] : List Ov).flatMap opC):=by rw [← hw1];exact lies_new rfl
 have hL2 : Lies w2 w2.heap.size (some ⟨w1.heap.size,0,none⟩) (sysCells [⟨0,0,0,0,2,1,7⟩]):=by rw [← hw2];exact lies_new rfl
 have h1:=(script0 (some ⟨w.heap.size,0,none⟩) 1 [(1,(3,0,0,0,0,0,0,0,0),(0,0),(0,0),0,0)] (some ⟨w1.heap.size,0,none⟩) 1 [⟨0,0,0,0,2,1,7⟩] w2 (by simp) (by simp) ((hL1.below hb2).mono hb2.size) hL2 (by intro s hs;rw [List.mem_singleton] at hs;subst hs;exact inR_small (by decide) (by decide)) works_all works_plan)
 unfold ScrP at h1
 rw [works_rows] at h1
 simp only [List.length_cons,List.length_nil,Nat.zero_add] at h1
 have H1:=Lib.hid h1
 clear h1
 obtain ⟨Hw1,Hw2,Hb02⟩:=hid3 hw1 hw2 hb02
 clear hw1 hw2 hb02
 clear hb1 hb2 hz1 hz2 hL1 hL2 hs1 hs2
 go_enter Tryz.func11,Tryz.ntmps11
 go_wp2_with (first | (refine wpList_build1 rfl 35 49 (.tmp 5) rfl (opC (1,(3,0,0,0,0,0,0,0,0),(0,0),(0,0),0,0)) rfl Tryz.underlying35 (z:=.agg #[.int .i64 0,.int .i64 0,.int .i64 0,.int .i64 0,.int .i64 0,.int .i64 0,.int .i64 0,.int .i64 0,.int .i64 0,.int .i64 0,.int .i64 0,.int .i64 0,.int .i64 0,.int .i64 0,.int .i64 0,.int .i64 0]) (b:=128) (by kernel_rfl) (opC_len _) (by omega) (by omega) ?_;rw [show (opC (1,(3,0,0,0,0,0,0,0,0),(0,0),(0,0),0,0)).toArray = #[.int .i64 1,.int .i64 3,.int .i64 0,.int .i64 0,.int .i64 0,.int .i64 0,.int .i64 0,.int .i64 0,.int .i64 0,.int .i64 0,.int .i64 0,.int .i64 0,.int .i64 0,.int .i64 0,.int .i64 0,.int .i64 0] from rfl,Hw1.out]) | (refine wpList_build1 rfl 36 102 (.tmp 7) rfl (syC ⟨0,0,0,0,2,1,7⟩) rfl Tryz.underlying36 (z:=.agg #[.int .i64 0,.int .i64 0,.int .i64 0,.int .i64 0,.int .i64 0,.int .i64 0,.int .i64 0]) (b:=56) (by kernel_rfl) (syC_len _) (by omega) (by omega) ?_;rw [show (syC ⟨0,0,0,0,2,1,7⟩).toArray = #[.int .i64 0,.int .i64 0,.int .i64 0,.int .i64 0,.int .i64 2,.int .i64 1,.int .i64 7] from rfl,Hw2.out]) | fail)
 refine H1.out.mono ?_
 rintro e w3 ⟨A1,n1,k1,v2,A3,n3,k3,rfl,hrow,hb3⟩
 obtain ⟨g,cap,cur,rfl,-,-,-⟩:=row_some hrow (by simp)
 obtain ⟨w4,hw4,hb4,hz4,hs4⟩:=box1 w3 (.cells #[.slice A1 n1 k1,.slice (some ⟨g,0,none⟩) 1 cap,.slice A3 n3 k3] 26)
 have hb04:=Hb02.out.trans ((hb3.trans (hb4.mono hb3.size)).mono Hb02.out.size)
 have hr4:=row_mod hrow (Mod.ofBelow hb4) (by simp)
 have e3:=row_cell hr4 (i:=3) (u:=.int .i64 0) rfl
 have e4:=row_cell hr4 (i:=4) (u:=.int .i64 7) rfl
 have e5:=row_cell hr4 (i:=5) (u:=.int .i64 0) rfl
 have e6:=row_cell hr4 (i:=6) (u:=.int .i64 0) rfl
 have e7:=row_cell hr4 (i:=7) (u:=.int .i64 0) rfl
 have e8:=row_cell hr4 (i:=8) (u:=.int .i64 0) rfl
 have e9:=row_cell hr4 (i:=9) (u:=.int .i64 0) rfl
 have e10:=row_cell hr4 (i:=10) (u:=.int .i64 0) rfl
 have hgl:=row_lt hr4 g rfl
 have heq : ∀ w,(binOp .eql 43 (.agg #[.int .i64 0,.int .i64 7,.int .i64 0,.int .i64 0,.int .i64 0,.int .i64 0,.int .i64 0,.int .i64 0]) (.agg #[.int .i64 0,.int .i64 7,.int .i64 0,.int .i64 0,.int .i64 0,.int .i64 0,.int .i64 0,.int .i64 0])).run Tryz.prog w = .ok (.bool true) w:=fun w => by
  have:=eqlArr w [0,7,0,0,0,0,0,0] [0,7,0,0,0,0,0,0] rfl rfl
  rw [eqB_self] at this
  exact this
 obtain ⟨c0,c1,c2,cl⟩:=cells3 hz4
 have Hb04:=Lib.hid hb04
 clear hb04
 clear hrow hr4 hb3 hb4 hs4 hz4 H1
 go_wp2
 go_ret
 exact ⟨rfl,Hb04.out⟩
end Go.Proofs.YtfdillpofciicaaGreatDoor
namespace Go.Proofs.YtfdillpofciicaaGreatDoor
open Go
abbrev Bs:=List UInt8
def spl (c : UInt8) : Bs → List Bs
 | [] => [[]]
 | b :: l => if b = c then [] :: spl c l else ((b :: (spl c l).headD []) :: (spl c l).tail)
theorem spl_ne (c : UInt8) (l : Bs) : ∃ x r,spl c l = x :: r:=by
 cases l with
 | nil => exact ⟨_,_,rfl⟩
 | cons b l => unfold spl;split <;> exact ⟨_,_,rfl⟩
theorem spl_none {c : UInt8} : ∀ {l : Bs},c ∉ l → spl c l = [l]
 | [],_ => rfl
 | b :: l,h => by
  have h1 : b ≠ c:=fun e => h (by simp [e])
  rw [spl,if_neg h1,spl_none (fun e => h (by simp [e]))];rfl
theorem spl_app {c : UInt8} {r : Bs} : ∀ {a : Bs},c ∉ a → spl c (a ++ c :: r) = a :: spl c r
 | [],_ => by rw [List.nil_append,spl,if_pos rfl]
 | b :: l,h => by
  have h1 : b ≠ c:=fun e => h (by simp [e])
  rw [List.cons_append,spl,if_neg h1,spl_app (fun e => h (by simp [e]))];rfl
def glue (c : UInt8) : List Bs → Bs
 | [] => []
 | [x] => x
 | x :: y :: r => x ++ c :: glue c (y :: r)
theorem spl_glue {c : UInt8} : ∀ {xs : List Bs},xs ≠ [] → (∀ x ∈ xs,c ∉ x) → spl c (glue c xs) = xs
 | [],h,_ => absurd rfl h
 | [x],_,h => by rw [glue,spl_none (h x (by simp))]
 | x :: y :: r,_,h => by rw [glue,spl_app (h x (by simp)),spl_glue (by simp) (fun z hz => h z (by simp only [List.mem_cons] at hz ⊢;exact .inr hz))]
theorem index_one (c : UInt8) : ∀ l : Bs,Lib.index l [c] = Lib.indexByte l c
 | [] => rfl
 | b :: l => by
  rw [Lib.index,Lib.indexByte,index_one c l]
  by_cases h : b = c
  ·subst h;simp [List.isPrefixOf]
  ·have h1 : ([c] : Bs).isPrefixOf (b :: l) = false:=by simp [List.isPrefixOf,Ne.symm h]
   rw [h1]
   simp [h]
theorem indexByte_app {c : UInt8} {r : Bs} : ∀ {a : Bs},c ∉ a → Lib.indexByte (a ++ c :: r) c = (a.length : Int)
 | [],_ => by rw [List.nil_append,Lib.indexByte];simp
 | b :: l,h => by
  have h1 : b ≠ c:=fun e => h (by simp [e])
  rw [List.cons_append,Lib.indexByte,indexByte_app (fun e => h (by simp [e]))]
  have : ¬ ((l.length : Int) = -1):=by omega
  simp [h1,this]
theorem mem_app {c : UInt8} : ∀ {l : Bs},c ∈ l → ∃ a r,l = a ++ c :: r ∧ c ∉ a
 | [],h => by simp at h
 | b :: l,h => by
  by_cases hb : b = c
  ·subst hb;exact ⟨[],l,rfl,by simp⟩
  ·obtain ⟨a,r,rfl,h2⟩:=mem_app (l:=l) (by rcases List.mem_cons.1 h with e | e;exact absurd e.symm hb;exact e)
   exact ⟨b :: a,r,rfl,by intro e;rcases List.mem_cons.1 e with e | e;exact hb e.symm;exact h2 e⟩
theorem splitK_spl (c : UInt8) : ∀ (k : Nat) (l : Bs),l.count c = k → Lib.splitK [c] 0 k l = spl c l
 | 0,l,h => by
  have : c ∉ l:=List.count_eq_zero.1 h
  rw [Lib.splitK,spl_none this]
 | k + 1,l,h => by
  obtain ⟨a,r,rfl,ha⟩:=mem_app (c:=c) (l:=l) (List.count_pos_iff.1 (by omega))
  have h0 : a.count c = 0:=List.count_eq_zero.2 ha
  rw [Lib.splitK,index_one,indexByte_app ha,spl_app ha]
  rw [if_neg (by simp)]
  simp only [Int.toNat_natCast,Nat.add_zero,List.length_singleton]
  rw [List.take_left',show (a ++ c :: r).drop (a.length + 1) = r by rw [List.drop_append];simp,splitK_spl c k r (by simp [List.count_append,h0] at h;omega)]
  rfl
theorem splitB_spl (s : ByteArray) (c : UInt8) : (Lib.splitB ⟨#[c]⟩ 0 (Lib.countB s ⟨#[c]⟩) s).map (fun x => x.data.toList) = spl c s.data.toList:=by
 rw [Lib.splitB_data]
 refine splitK_spl c _ _ ?_
 exact (Lib.count_one c s.data.toList).symm
theorem cut_app {c : UInt8} {a r : Bs} (h : c ∉ a) : Lib.cut (a ++ c :: r) [c] = (a,r,true):=by
 unfold Lib.cut
 rw [index_one,indexByte_app h,if_pos (by omega)]
 simp only [Int.toNat_natCast,List.length_singleton,Prod.mk.injEq,and_true]
 exact ⟨List.take_left' rfl,by rw [List.drop_append];simp⟩
theorem trim_app (a : Bs) : Lib.trimSuffix (a ++ [10]) [10] = a:=by
 unfold Lib.trimSuffix Lib.hasSuffix
 have : ([10] : Bs).isSuffixOf (a ++ [10]) = true:=by rw [List.isSuffixOf_iff_suffix];exact List.suffix_append _ _
 rw [if_pos this];simp
def lns (l : Bs) : List Bs :=
 match l with
 | [] => []
 | b :: r => if 0 ≤ Lib.indexByte (b :: r) 10 then (b :: r).take ((Lib.indexByte (b :: r) 10).toNat + 1) :: lns ((b :: r).drop ((Lib.indexByte (b :: r) 10).toNat + 1)) else [b :: r]
termination_by l.length
decreasing_by rw [List.length_drop];simp only [List.length_cons];omega
theorem lns_nil : lns [] = []:=by rw [lns]
theorem lns_cut {l : Bs} {i : Nat} (h : Lib.indexByte l 10 = (i : Int)) (hl : l ≠ []) : lns l = l.take (i + 1) :: lns (l.drop (i + 1)):=by
 cases l with
 | nil => exact absurd rfl hl
 | cons b r => rw [lns,if_pos (by omega),h];rfl
theorem lns_last {l : Bs} (h : Lib.indexByte l 10 = -1) (hl : l ≠ []) : lns l = [l]:=by
 cases l with
 | nil => exact absurd rfl hl
 | cons b r => rw [lns,if_neg (by omega)]
theorem lns_app {a r : Bs} (h : (10 : UInt8) ∉ a) : lns (a ++ 10 :: r) = (a ++ [10]) :: lns r:=by
 rw [lns_cut (indexByte_app h) (by simp)]
 congr 1
 ·rw [show a ++ 10 :: r = (a ++ [10]) ++ r by simp]
  exact List.take_left' (by simp)
 ·congr 1;rw [List.drop_append];simp
theorem lns_all : ∀ {xs : List Bs},(∀ x ∈ xs,(10 : UInt8) ∉ x) → lns (xs.flatMap (fun x => x ++ [10])) = xs.map (fun x => x ++ [10])
 | [],_ => lns_nil
 | x :: xs,h => by
  rw [List.flatMap_cons,List.append_assoc,List.map_cons]
  rw [show ([10] : Bs) ++ xs.flatMap (fun x => x ++ [10]) = 10 :: xs.flatMap (fun x => x ++ [10]) from rfl,lns_app (h x (by simp)),lns_all (fun y hy => h y (by simp [hy]))]
def isDg (c : UInt8) : Prop:=48 ≤ c.toNat ∧ c.toNat ≤ 57
instance (c : UInt8) : Decidable (isDg c):=by unfold isDg;exact inferInstance
theorem dg_toNat {u : Nat} (h : u < 10) : (UInt8.ofNat (48 + u)).toNat = 48 + u:=by
 rw [UInt8.toNat_ofNat'];omega
theorem decDigits_dg : ∀ (n u : Nat),u < n → ∀ c ∈ Lib.decDigits u,isDg c
 | 0,u,h => by omega
 | n + 1,u,h => by
  intro c hc
  rw [Lib.decDigits] at hc
  split at hc
  ·rename_i h1
   rw [List.mem_singleton] at hc
   subst hc
   unfold isDg;rw [dg_toNat h1];omega
  ·rename_i h1
   rcases List.mem_append.1 hc with hc | hc
   ·exact decDigits_dg n (u / 10) (by omega) c hc
   ·rw [List.mem_singleton] at hc
    subst hc
    unfold isDg;rw [dg_toNat (Nat.mod_lt _ (by omega))];omega
theorem itoa_char {n : Int} {c : UInt8} (h : c ∈ Lib.itoa n) : isDg c ∨ c = 45:=by
 unfold Lib.itoa at h
 split at h
 ·rcases List.mem_cons.1 h with rfl | h
  ·exact .inr rfl
  ·exact .inl (decDigits_dg _ _ (Nat.lt_succ_self _) c h)
 ·exact .inl (decDigits_dg _ _ (Nat.lt_succ_self _) c h)
theorem itoa_not {n : Int} {c : UInt8} (h : c = 32 ∨ c = 10 ∨ c = 61) : c ∉ Lib.itoa n:=by
 intro hc
 rcases itoa_char hc with h1 | rfl
 ·unfold isDg at h1
  rcases h with rfl | rfl | rfl
  ·exact absurd h1.1 (by decide)
  ·exact absurd h1.1 (by decide)
  ·exact absurd h1.2 (by decide)
 ·rcases h with h | h | h <;> exact absurd h (by decide)
def decV (acc : Nat) (l : Bs) : Nat:=l.foldl (fun a c => a * 10 + (c.toNat - 48)) acc
theorem decV_nil (acc : Nat) : decV acc [] = acc:=rfl
theorem decV_cons (acc : Nat) (c : UInt8) (r : Bs) : decV acc (c :: r) = decV (acc * 10 + (c.toNat - 48)) r:=by unfold decV;rw [List.foldl_cons]
theorem decV_app (a : Bs) (acc : Nat) (c : UInt8) : decV acc (a ++ [c]) = decV acc a * 10 + (c.toNat - 48):=by unfold decV;rw [List.foldl_append];rfl
theorem decV_digits : ∀ (n u : Nat),u < n → decV 0 (Lib.decDigits u) = u
 | 0,u,h => by omega
 | n + 1,u,h => by
  rw [Lib.decDigits]
  split
  ·rename_i h1
   rw [decV_cons,decV_nil,dg_toNat h1];omega
  ·rename_i h1
   rw [decV_app,decV_digits n (u / 10) (by omega),dg_toNat (Nat.mod_lt _ (by omega))];omega
theorem decV_mono : ∀ (l : Bs) (acc : Nat),acc ≤ decV acc l
 | [],_ => Nat.le_refl _
 | c :: r,acc => by rw [decV_cons];have:=decV_mono r (acc * 10 + (c.toNat - 48));omega
theorem parseUint_ok : ∀ (l : Bs) (acc : Nat),(∀ c ∈ l,isDg c) → decV acc l < 1844674407370955162 → Lib.parseUint10 acc l = .ok (decV acc l)
 | [],_,_,_ => rfl
 | c :: r,acc,h,hb => by
  have hc:=h c (by simp)
  unfold isDg at hc
  have h1:=decV_mono r (acc * 10 + (c.toNat - 48))
  rw [decV_cons] at hb
  rw [Lib.parseUint10,if_pos hc,if_neg (by omega),if_neg (by omega),parseUint_ok r _ (fun x hx => h x (by simp [hx])) hb,decV_cons]
theorem decDigits_ne (u : Nat) : ∃ c r,Lib.decDigits u = c :: r:=by
 cases h : Lib.decDigits u with
 | nil => have:=Lib.decDigits_length u;rw [h] at this;have:=Lib.nDigits_pos u;simp at *;omega
 | cons c r => exact ⟨c,r,rfl⟩
theorem parseMag_digits {u : Nat} (h : u < 1844674407370955162) : Lib.parseMag (Lib.decDigits u) = .ok u:=by
 obtain ⟨c,r,e⟩:=decDigits_ne u
 have h2:=parseUint_ok (Lib.decDigits u) 0 (decDigits_dg _ _ (Nat.lt_succ_self _)) (by rw [decV_digits _ _ (Nat.lt_succ_self _)];exact h)
 rw [decV_digits _ _ (Nat.lt_succ_self _)] at h2
 unfold Lib.parseMag
 rw [e] at h2 ⊢
 simpa using h2
theorem atoi_itoa {n : Int} (h : n.natAbs < 1844674407370955162) : Lib.atoiAll (Lib.itoa n) = .ok n:=by
 unfold Lib.itoa
 split
 ·rw [Lib.atoiAll_minus,parseMag_digits h]
  unfold Lib.signed
  simp only
  rw [if_neg (by omega)]
  congr 1;omega
 ·have e : n.toNat < 1844674407370955162:=by omega
  obtain ⟨c,r,e2⟩:=decDigits_ne n.toNat
  have hd:=decDigits_dg _ _ (Nat.lt_succ_self n.toNat) c (by rw [e2];simp)
  unfold isDg at hd
  rw [e2,Lib.atoiAll_plain c r (by omega) (by omega),← e2,parseMag_digits e]
  unfold Lib.signless
  simp only
  rw [if_neg (by omega)]
  congr 1;omega
def num0 (l : Bs) : Int:=match Lib.atoiAll l with | .ok v => v | .range => Lib.atoiSat l | _ => 0
theorem num0_itoa {n : Int} (h : n.natAbs < 1844674407370955162) : num0 (Lib.itoa n) = n:=by unfold num0;rw [atoi_itoa h]
theorem num0_bounds (l : Bs) : -9223372036854775808 ≤ num0 l ∧ num0 l ≤ 9223372036854775807:=by
 unfold num0
 split
 ·exact Lib.atoiAll_bounds (by assumption)
 ·exact Lib.atoiSat_bounds l
 ·omega
def nums (l : List Int) : Bs:=l.flatMap fun n => 32 :: Lib.itoa n
end Go.Proofs.YtfdillpofciicaaGreatDoor
