import Derived.Test.YtidbcolnkcbkoaaGreatTopHandlesJ33
import Derived.Lib.SmallJoins
import Derived.MapKept
/- A part of the proof that TopHandles returns true. -/
namespace Go.Proofs.YtidbcolnkcbkoaaGreat
open Go Go.RowKit Go.ChangeShapes Go.WideShapes Go.ChangeAt Go.Maps
attribute [local go_sem] AllFrom.cons_eq AllFrom.nil_eq putF_nil putF_cons wantedL_none wantedL_some OpGoalT OpGoalV OpGoalQ OpGoalA OpGoalK YieldsR preF_nil preF_cons
theorem MapP.upd1 {m1 m2 : Nat} {T D T' : List (Hd × Bool)} {w w' : World} {G : List Nat} (h : MapP m1 m2 T D w G) (hm : MapAt Tryz.prog 43 w' m1 (T'.map encB)) (hd : Mod [m1] w w') : OwnPost (MapP m1 m2 T' D) G w w' :=
 ⟨G,⟨hm,h.2.1.mod hd (by have:=h.2.2.2;simpa using this.symm),h.2.2⟩,⟨hd.mono (by rw [h.2.2.1];simp),fun k hk => .inl hk⟩⟩
theorem MapP.upd2 {m1 m2 : Nat} {T D D' : List (Hd × Bool)} {w w' : World} {G : List Nat} (h : MapP m1 m2 T D w G) (hm : MapAt Tryz.prog 43 w' m2 (D'.map encB)) (hd : Mod [m2] w w') : OwnPost (MapP m1 m2 T D') G w w' :=
 ⟨G,⟨h.1.mod hd (by have:=h.2.2.2;simpa using this),hm,h.2.2⟩,⟨hd.mono (by rw [h.2.2.1];simp),fun k hk => .inl hk⟩⟩
set_option maxRecDepth 100000 in
set_option maxHeartbeats 8000000 in
theorem topHandles_ok (A : Option Addr) (c : Nat) (l : List Ov) (w : World) (hl : l.length * 128 ≤ 140737488351232) (hA : Lies w w.heap.size A (l.flatMap opC)) (hR : ∀ x ∈ l,HdR x.2.2.1 ∧ HdR x.2.2.2.1) :
  Calls Tryz.prog 4 #[.slice A l.length c] w fun e w' => e = .returned (.bool true) ∧ Below w.heap.size w w':=by
 have H1:=Lib.hid (works_any w)
 have hl2 : l.length ≤ 1200000000000:=by omega
 obtain ⟨HA,HR⟩:=hid2 hA hR
 clear hA hR
 clear hl
 have hmm:=@run_makeMap Tryz.prog
 go_enter Tryz.func4,Tryz.ntmps4
 go_wp2_with fail
 refine H1.out.mono ?_
 rintro e w1 ⟨rfl,hw⟩
 have H2:=Lib.hid (zooNew_any w1)
 have HB1:=Lib.hid hw
 clear hw
 clear H1
 go_wp2_with fail
 refine H2.out.mono ?_
 rintro e w2 ⟨z,p,f,F,rfl,hW,hF,hb⟩
 obtain ⟨w3,hw3,hb3,hz3,hs3⟩:=box1 w2 (.map #[] 0)
 obtain ⟨w4,hw4,hb4,hz4,hs4⟩:=box1 w3 (.map #[] 0)
 have hB2:=HB1.out.trans (hb.mono HB1.out.size)
 have hb34:=hb3.trans (hb4.mono hb3.size)
 have hB4:=hB2.trans (hb34.mono hB2.size)
 have hm1 : MapAt Tryz.prog 43 w4 w2.heap.size (([] : List (Hd × Bool)).map encB):=by
  have:=(MapAt.made (P:=Tryz.prog) (kt:=43) w2)
  rw [hw3] at this
  exact this.mod (Mod.ofBelow hb4) (by simp)
 have hm2 : MapAt Tryz.prog 43 w4 w3.heap.size (([] : List (Hd × Bool)).map encB):=by
  have:=(MapAt.made (P:=Tryz.prog) (kt:=43) w3)
  rw [hw4] at this
  exact this
 have hlW:=hW.lt
 have hs1:=HB1.out.size;have hs2:=hb.size
 have hS : Sep w.heap.size [] (RepX z [] [] []) (MapP w2.heap.size w3.heap.size [] []) w4:=by
  refine ⟨F,[w2.heap.size,w3.heap.size],⟨(own_X _ _ _ _).mod ⟨p,f,hW⟩ (Mod.ofBelow hb34) (by simp),⟨hm1,hm2,rfl,by omega⟩,fun y hy e => ?_,fun y hy => ⟨Nat.le_trans hs1 (hF y hy),by simp⟩,fun y hy => ?_,hB4.size,by simp⟩⟩
  ·have:=hlW y hy
   simp only [List.mem_cons,List.not_mem_nil,or_false] at e
   rcases e with e | e <;> omega
  ·simp only [List.mem_cons,List.not_mem_nil,or_false] at hy
   rcases hy with e | e
   ·exact ⟨by omega,by simp⟩
   ·exact ⟨by omega,by simp⟩
 obtain ⟨HS0,HB4⟩:=hid2 hS hB4
 clear hS hB4
 clear hW hF hb hb3 hz3 hs3 hb4 hz4 hs4 hb34 hm1 hm2 hlW hs1 hs2 hB2 H2
 go_wp2_with fail
 clear hw3 hw4
 generalize w2.heap.size = m1 at *
 generalize w3.heap.size = m2 at *
 go_loopw [22] (fun i wr => ∃ (k : Nat) (sl : Sl) (R : List Rw) (B : List Bd) (T D : List (Hd × Bool)),k ≤ l.length ∧ i = .int .i64 k ∧ Sep w.heap.size [] (RepX z sl R B) (MapP m1 m2 T D) wr ∧ ZOk sl R B ∧ (∀ b ∈ B,b.2 ∈ allS sl) ∧ THok sl T D ∧ T.length ≤ k ∧ Below w.heap.size w wr) (fun i _ => l.length - (Go.RowKit.intOf i).toNat)
 case atStart => exact ⟨0,[],[],[],[],[],by omega,rfl,HS0.out,⟨wok_nil,famOk_nil,by simp⟩,by simp,thok_nil,by simp,HB4.out⟩
 case round =>
  obtain ⟨k,sl,R,B,T,D,hk,rfl,hS,hO,hq,hT,hTl,hB⟩:=hrel
  clear HS0 HB4
  have hsz:=hB.size
  by_cases hlt : k < l.length
  ·obtain ⟨ab,ao,rfl,hal,hc⟩:=HA.out.rec_at opC_len (by omega) hlt
   have hqq : ∀ j u,(opC l[k])[j]? = some u → wr.cell? ((⟨ab,ao + k * 16,none⟩ : Addr).add j) = some u:=fun j u hu => (hB.cell (p:=(⟨ab,ao + k * 16,none⟩ : Addr).add j) (by rw [add_block];exact hal)).trans (by first | exact hc j u hu | (have:=hc j u hu;rw [Addr.add_mid];exact this))
   have hxr:=HR.out _ (List.getElem_mem hlt)
   have hki : (k : Int) < (l.length : Int):=by omega
   generalize l[k] = x at *
   obtain ⟨d,⟨K,a0,a1,a2,a3,a4,a5,a6,a7⟩,⟨s,g⟩,⟨ts,tg⟩,kd,n⟩:=x
   obtain ⟨sl',R',B',h1,e0,hD⟩:=doO_any hO (d,(K,a0,a1,a2,a3,a4,a5,a6,a7),(s,g),(ts,tg),kd,n) hxr.1 hxr.2
   obtain ⟨r0,r1⟩:=h1
   obtain ⟨w3,hw3,hb3,hk3,hs3⟩:=box1 wr (.cells #[.int .i64 d,.int .i64 K,.int .i64 a0,.int .i64 a1,.int .i64 a2,.int .i64 a3,.int .i64 a4,.int .i64 a5,.int .i64 a6,.int .i64 a7,.int .i64 s,.int .i64 g,.int .i64 ts,.int .i64 tg,.int .i64 kd,.int .i64 n] 45)
   have hS3:=Sep.fresh (own_X _ _ _ _) (own_MP _ _ _ _) hS hb3 wr.heap.size (Nat.le_refl _) (by omega)
   have hB3:=hB.trans (hb3.mono hB.size)
   have H7:=Lib.hid (Sep.callL (own_X _ _ _ _) (own_MP _ _ _ _) hS3 fun F hF => vx_do hF hD)
   have hO':=hD.at_.ok hO
   have hq':=hD.at_.par hq
   have hpl : DoPl sl d sl' r0 r1 e0:=hD.at_.pl
   obtain ⟨c0,c1,c2,c3,c4,c5,c6,c7,c8,c9,c10,c11,c12,c13,c14,c15,cl⟩:=cells16 hk3
   obtain ⟨HQ,Hw3,Hs3,HO',Hq',Hpl,HT,HB3,Hk3⟩:=hid9 hqq hw3 hs3 hO' hq' hpl hT hB3 hk3
   clear hqq hw3 hs3 hO' hq' hpl hT hB3 hk3
   obtain ⟨Hlt,HTl⟩:=hid2 hlt hTl
   clear hc hB hb3 hxr hO hq hal hD hS3
   go_wp2_with (first | (refine wpList_load_flat rfl 45 (.tmp 24) rfl _ rfl (opC (d,(K,a0,a1,a2,a3,a4,a5,a6,a7),(s,g),(ts,tg),kd,n)) _ Tryz.underlying45 rfl (sz_Op _) HQ.out ?_) | (refine wpList_store_new rfl 45 (.tmp 7) (.tmp 25) rfl wr (ints [0,0,0,0,0,0,0,0,0,0,0,0,0,0,0,0]) (opC (d,(K,a0,a1,a2,a3,a4,a5,a6,a7),(s,g),(ts,tg),kd,n)) 45 rfl rfl rfl (sz_Op _) (opC_one _) ?_;rw [show (opC (d,(K,a0,a1,a2,a3,a4,a5,a6,a7),(s,g),(ts,tg),kd,n)).toArray = #[.int .i64 d,.int .i64 K,.int .i64 a0,.int .i64 a1,.int .i64 a2,.int .i64 a3,.int .i64 a4,.int .i64 a5,.int .i64 a6,.int .i64 a7,.int .i64 s,.int .i64 g,.int .i64 ts,.int .i64 tg,.int .i64 kd,.int .i64 n] from rfl,Hw3.out]) | fail)
   clear c0 c1 c2 c3 c4 c5 c6 c7 c8 c9 c10 c11 c12 c13 c14 c15 cl
   refine H7.out.mono ?_
   rintro e w4 ⟨rfl,h4,hb4,hk4⟩
   obtain ⟨w6,hw6,hb6,hz6,hs6⟩:=box1 w4 (.cells #[.int .i64 r0,.int .i64 r1] 43)
   have hS6:=Sep.below (own_X _ _ _ _) (own_MP _ _ _ _) h4 hb6
   have hB6:=HB3.out.trans (hb4.trans hS6.2.1)
   have hS6:=Sep.drop (Y:=[]) hS6.1 (by simp)
   have hbox6:=(Mod.ofBelow hb6).keep (hk4 _ (by simp) _ Hk3.out) (by simp)
   obtain ⟨c0,c1,c2,c3,c4,c5,c6,c7,c8,c9,c10,c11,c12,c13,c14,c15,cl⟩:=cells16 hbox6
   obtain ⟨y0,y1,yl⟩:=cells2 hz6
   clear hs6 h4 hb4 hk4 hb6
   by_cases hsp : d = 1 ∧ e0 = 0
   ·obtain ⟨rfl,rfl⟩:=hsp
    have hfresh:=HT.out.fresh Hpl.out rfl rfl
    obtain ⟨F6,G6,hA6⟩:=hS6
    have hmp:=hA6.b.1
    have hlk:=mh_out encB_keys Tryz.underlying38 (Tryz.zeroValue4 _) hmp Hpl.out.hr hfresh false
    obtain ⟨w7,T',hup,hmT,hpm,hmod7,hsz7⟩:=mh_upd encB_keys Tryz.underlying38 hmp Hpl.out.hr true
    simp only [hdV,handleC,encB,Bool.false_eq_true,if_false] at hlk hup
    have hS7:=hA6.right (own_X _ _ _ _) (own_MP _ _ _ _) (hA6.b.upd1 hmT hmod7)
    have hB7:=hB6.trans hS7.2.1
    have hS7:=hS7.1
    have hT7:=HT.out.spawn Hpl.out rfl rfl hpm
    have hT7l : T'.length ≤ k + 1:=by
     have h1:=hpm.length_eq
     have h2:=List.length_filter_le (fun x : Hd × Bool => decide (x.1 ≠ (r0,r1))) T
     have:=HTl.out
     simp only [List.length_cons] at h1
     omega
    obtain ⟨Hpm,Hfresh,Hmod7⟩:=hid3 hpm hfresh hmod7
    clear hpm hfresh hmod7
    clear hsz7 hmp hA6
    obtain ⟨o,hrun,hR0⟩:=MapAt.range Tryz.underlying38 hmT
    obtain ⟨w8,hw8,hb8,-,hs8⟩:=box1 w7 o
    rw [hw8] at hR0
    have hS8:=Sep.fresh (own_X _ _ _ _) (own_MP _ _ _ _) hS7 hb8 w7.heap.size (Nat.le_refl _) (by omega)
    have hB8:=hB7.trans (hb8.mono hB7.size)
    have hrLo:=hB7.size
    obtain ⟨HR0,HS8,HB8,HT7,HT7l,HrLo⟩:=hid6 hR0 hS8 hB8 hT7 hT7l hrLo
    clear hR0 hS8 hB8 hT7 hT7l hrLo
    clear hS7 hb8 hmT hB7 hs8
    go_wp2_with fail
    clear hrun hw8
    generalize w7.heap.size = r at *
    go_loopw [47] (fun _ wr => ∃ (ts D1 : List (Hd × Bool)),RangeAt Tryz.prog 43 wr m1 r (T'.map encB) (ts.map encB) ∧ (∀ y ∈ ts,y ∈ T') ∧ Sep w.heap.size [r] (RepX z sl' R' B') (MapP m1 m2 T' D1) wr ∧ THok sl' T' D1 ∧ Below w.heap.size w wr) (fun _ wr => wr.rangeLeft m1 r)
    case atStart => exact ⟨T',D,HR0.out,fun _ h => h,HS8.out,HT7.out,HB8.out⟩
    case round =>
     obtain ⟨ts,D1,hR,hsub,hS,hTi,hBr⟩:=hrel
     by_cases hts : ts = []
     ·subst hts
      have hov:=fun ty => RangeAt.over (P:=Tryz.prog) (by simpa using hR) ty
      obtain ⟨HSe,HTe,HBe⟩:=hid3 hS hTi hBr
      clear hS hTi hBr
      clear hR hsub
      go_wp2_with fail
      go_roundw
      case rel => exact ⟨k + 1,sl',R',B',T',D1,by have:=Hlt.out;omega,by go_num,HSe.out.drop (by simp),HO'.out,Hq'.out,HTe.out,HT7l.out,HBe.out⟩
      case measure => have:=Hlt.out;simp [Go.RowKit.intOf];omega
     ·obtain ⟨t1,x,t2,wn,rfl,hn,hen,hx,hR2,hm2,hs2⟩:=hR.nextE hts
      have hxT:=hsub x (by simp)
      have hmeas:=hR.left_eq
      have hSn:=Sep.modZ (own_X _ _ _ _) (own_MP _ _ _ _) hS hm2 (by simp)
      have hBn:=hBr.trans (hm2.toBelow (by simpa using HrLo.out) hBr.size)
      have hhr:=(hTi.told x hxT).2
      obtain ⟨⟨s',g'⟩,b'⟩:=x
      simp only [encB,hdV,handleC] at hn hen
      obtain ⟨wb,hwb,hbb,hzb,hsb⟩:=box1 wn (.cells #[.int .i64 s',.int .i64 g'] 43)
      have hSb:=Sep.below (own_X _ _ _ _) (own_MP _ _ _ _) hSn hbb
      have hRb:=hR2.mod (Mod.ofBelow hbb) (by simp) (by simp)
      have hBb:=hBn.trans hSb.2.1
      have hSb:=hSb.1
      obtain ⟨q0,q1,ql⟩:=cells2 hzb
      obtain ⟨FX,GX,hAb⟩:=hSb
      obtain ⟨p,f,hV⟩:=hAb.a
      have hSb : Sep w.heap.size [r] (RepX z sl' R' B') (MapP m1 m2 T' D1) wb:=⟨FX,GX,hAb⟩
      have hge:=getE_live HO'.out.w s' g'
      have hGet:=fun (U : World) (hb : Below wb.heap.size wb U) => (by
       obtain ⟨FW,h1⟩:=(hV.below hb).w_
       exact wget_any h1 s' g' : Calls Tryz.prog 12 #[.pointer (some ⟨p,0,none⟩),.agg #[.int .i64 s',.int .i64 g']] U (fun e w' => e = .returned (.tuple #[.agg (btC (getB R' (s',g'))).toArray,.int .i64 (getE R' (s',g'))]) ∧ Below U.heap.size U w'))
      generalize getE R' (s',g') = ge at *
      generalize getB R' (s',g') = bt at *
      obtain ⟨K',a0',a1',a2',a3',a4',a5',a6',a7'⟩:=bt
      simp only [btC] at hGet
      obtain ⟨zl,hzl⟩ : ∃ zl,zl = ints [0,0,0,0,0,0,0,0,0]:=⟨_,rfl⟩
      obtain ⟨rl,hrl⟩ : ∃ rl,rl = ints [K',a0',a1',a2',a3',a4',a5',a6',a7']:=⟨_,rfl⟩
      obtain ⟨HV,HSb,Hge,HGet,Hzl,Hrl,Hhr,HxT,Hmeas,Hsub,HTi,HRb,HBb,Hzb⟩:=hid14 hV hSb hge hGet hzl hrl hhr hxT hmeas hsub hTi hRb hBb hzb
      clear hV hSb hge hGet hzl hrl hhr hxT hmeas hsub hTi hRb hBb hzb
      clear hR hS hSn hR2 hm2 hs2 hbb hsb hBr hBn hAb
      go_wp2_with fail
      clear hwb
      refine wp_planK [9] 11 [0] [some 51,some 52,some 53,some 54,some 55,some 56,some 50,some 57,some 58,some 11,none,some 12] [[],[0],[0,1],[0,1,2],[],[0,1,2,3,4],[0,1,2,3,4,5],[0,1,2,3,4,5,6],[0,1,2,3,4,5,6],[],[0,1,2,3,4,5,6,7,9],[0,1,2,3,4,5,6,7,8,9,10]] [0,1,2,3,4,5,6,7,8,9,10] (fun Lf σ W => IGet 9 10 wb zl.toArray rl.toArray 41 Lf σ W) mixed rfl (by kernel_rfl) (by decide) (by decide) (by decide) (IGet.start below_drew) rfl ?_
      iterate 11 apply Exists.intro
      refine ⟨rfl,?_,?_⟩
      ·simp only [tS,List.take_zero,AllFrom.cons_eq,AllFrom.nil_eq,OpGoalK]
       refine ⟨?_,?_,?_,?_,?_,?_,?_,?_,?_,?_,?_,trivial⟩
       all_goals (intro L' σ V h1 h2 h3 hI hp;have HA1:=Lib.hid h1;have HA2:=Lib.hid h2;have HA3:=Lib.hid h3;clear h1 h2 h3;(try simp only [gZ,gS,preK_cons,preK_nil] at hp);(try simp only [List.mem_cons,List.not_mem_nil,or_false,eq_self,Nat.reduceEqDiff,Nat.reduceAdd,Nat.zero_add,false_or,true_or,true_and,and_true] at hp);(first | (have hq : True:=hp;clear hq hp) | skip);have HI:=Lib.hid hI;clear hI)
       all_goals (
        have hA:=(HV.out.below HI.out.b).cells
        have hc0:=hA.1;have hzz:=hA.2.2
        have hzV:=(Mod.ofBelow HI.out.b).keep Hzb.out (by simp)
        have q0:=blk_cell hzV 0
        have q1:=blk_cell hzV 1
        simp only [eA,eZ,eS] at q0 q1
        have ql:=blk_lt hzV
        clear hA hzV)
       iterate 5 · (go_simp;exact ⟨.inr rfl,HI.out.read (by decide) (by decide) _⟩)
       ·(go_simp;refine (HGet.out V HI.out.b).mono ?_;rintro e V2 ⟨rfl,hb⟩;exact ⟨_,rfl,.inr rfl,(HI.out.step hb).read (by decide) (by decide) _⟩)
       iterate 3 · (go_simp;exact ⟨.inr rfl,HI.out.read (by decide) (by decide) _⟩)
       ·go_simp
        have hmk:=HI.out.made (by decide) (HA3.out 10 (by decide))
        rw [Hzl.out] at hmk ⊢
        exact PostK.mk (c:=undef) (.inl (by decide)) hmk
       ·simp only [wantedL_none,if_true,Nat.reduceAdd,Nat.zero_add]
        have x3:=HA1.out
        simp only [Nat.reduceAdd,Nat.zero_add] at x3
        generalize hρ : Act.eval _ = ρ
        refine IGet.yr_stored HI.out (by decide) (HA2.out 9 (by decide)) x3 (by rw [Hzl.out,Hrl.out];rfl) 41 (.tmp 11) (.tmp 57) rfl ?_ ?_ (by rw [Hrl.out];kernel_rfl) (by rw [Hrl.out];exact ints_one _) (fun V' hV' => PostK.mk (c:=undef) (.inr rfl) hV')
        ·rw [← hρ]
         go_simp
        ·rw [← hρ]
         go_simp
         rw [Hrl.out]
         rfl
      ·intro L' σ Va h1 hI hp
       have hba:=hI.b
       have hza:=(Mod.ofBelow hba).keep Hzb.out (by simp)
       have HSa:=Lib.hid (Sep.below (own_X _ _ _ _) (own_MP _ _ _ _) HSb.out hba).1
       have HBa:=Lib.hid (HBb.out.trans (Sep.below (own_X _ _ _ _) (own_MP _ _ _ _) HSb.out hba).2.1)
       have HRa:=Lib.hid (HRb.out.mod (Mod.ofBelow hba) (by simp) (by simp))
       obtain ⟨Fa,Ga,hAa⟩:=HSa.out
       have hDa:=hAa.b.2.1
       have hhr:=Hhr.out
       have hlkD : ∃ bb,(Instr.lookup 38 (.map (some m2)) (.agg #[.int .i64 s',.int .i64 g']) false).run Tryz.prog Va = .ok (.bool bb) Va ∧ (bb = true → liveB sl' s' g' = false):=by
        by_cases hin : ∃ b0,((s',g'),b0) ∈ D1
        ·obtain ⟨b0,hb0⟩:=hin
         exact ⟨b0,mh_in encB_keys Tryz.underlying38 hDa hhr hb0 false,fun e => HTi.out.gone (x:=(s',g')) (by rw [← e];exact hb0)⟩
        ·exact ⟨false,mh_out encB_keys Tryz.underlying38 (Tryz.zeroValue4 _) hDa hhr (fun x hx e => hin ⟨x.2,by rw [← e];exact hx⟩) false,fun e => by cases e⟩
       obtain ⟨bb,hlkD,hbb⟩:=hlkD
       clear h1 hAa
       simp only [preK_cons,preK_nil,gZ,gS] at hp;simp only [List.mem_cons,List.not_mem_nil,or_false,eq_self,Nat.reduceEqDiff,false_or,true_or,true_and,and_true] at hp
       obtain ⟨q0,q1,ql⟩:=cells2 hza
       obtain ⟨Hba,Hza⟩:=hid2 hba hza
       clear hba hza
       clear hI
       simp only [dS,List.drop_zero]
       go_simp
       clear hp
       have hge:=Hge.out
       cases hlv : liveB sl' s' g' with
       | true =>
        have Hlv:=Lib.hid hlv
        rw [hlv] at hge hbb
        cases bb with
        | true => exact absurd (hbb rfl) (by simp)
        | false =>
         simp only [if_true] at hge
         subst hge
         clear hbb hlv
         obtain ⟨wu,D2,hup2,hmD2,hpmD,hmodu,hszu⟩:=mh_upd encB_keys Tryz.underlying38 hDa hhr false
         simp only [hdV,handleC,encB] at hup2
         obtain ⟨HDa,Hszu,Hmodu,HmD2,HpmD⟩:=hid5 hDa hszu hmodu hmD2 hpmD
         clear hDa hszu hmodu hmD2 hpmD
         go_wp2_with fail
         refine ⟨rfl,?_⟩
         go_wp2_with fail
         go_roundw
         case rel =>
          obtain ⟨Fa,Ga,hAa⟩:=HSa.out
          have hmr : m2 ≠ r:=fun e => (hAa.bf m2 (by rw [hAa.b.2.2.1];simp)).2 (by simp [e])
          exact ⟨t1 ++ t2,D2,(HRa.out.mod Hmodu.out (by have:=hAa.b.2.2.2;simpa using this) (by simpa using fun e => hmr e.symm)),(fun y hy => Hsub.out y (by rcases List.mem_append.1 hy with h | h <;> simp [h])),(hAa.right (own_X _ _ _ _) (own_MP _ _ _ _) (hAa.b.upd2 HmD2.out Hmodu.out)).1,HTi.out.look HxT.out (by rw [Hlv.out];exact HpmD.out),HBa.out.trans (hAa.right (own_X _ _ _ _) (own_MP _ _ _ _) (hAa.b.upd2 HmD2.out Hmodu.out)).2.1⟩
         case measure =>
          obtain ⟨Fa,Ga,hAa⟩:=HSa.out
          have hmr : m2 ≠ r:=fun e => (hAa.bf m2 (by rw [hAa.b.2.2.1];simp)).2 (by simp [e])
          have h3:=HRa.out.mod Hmodu.out (by have:=hAa.b.2.2.2;simpa using this) (by simpa using fun e => hmr e.symm)
          rw [h3.left_eq,Hmeas.out];simp
       | false =>
        have Hlv:=Lib.hid hlv
        rw [hlv] at hge
        simp only [Bool.false_eq_true,if_false] at hge
        subst hge
        clear hlv
        cases bb with
        | true =>
         clear hbb
         obtain ⟨wu,D2,hup2,hmD2,hpmD,hmodu,hszu⟩:=mh_upd encB_keys Tryz.underlying38 hDa hhr true
         simp only [hdV,handleC,encB] at hup2
         obtain ⟨HDa,Hszu,Hmodu,HmD2,HpmD⟩:=hid5 hDa hszu hmodu hmD2 hpmD
         clear hDa hszu hmodu hmD2 hpmD
         go_wp2_with fail
         refine ⟨rfl,?_⟩
         go_wp2_with fail
         go_roundw
         case rel =>
          obtain ⟨Fa,Ga,hAa⟩:=HSa.out
          have hmr : m2 ≠ r:=fun e => (hAa.bf m2 (by rw [hAa.b.2.2.1];simp)).2 (by simp [e])
          exact ⟨t1 ++ t2,D2,(HRa.out.mod Hmodu.out (by have:=hAa.b.2.2.2;simpa using this) (by simpa using fun e => hmr e.symm)),(fun y hy => Hsub.out y (by rcases List.mem_append.1 hy with h | h <;> simp [h])),(hAa.right (own_X _ _ _ _) (own_MP _ _ _ _) (hAa.b.upd2 HmD2.out Hmodu.out)).1,HTi.out.look HxT.out (by rw [Hlv.out];exact HpmD.out),HBa.out.trans (hAa.right (own_X _ _ _ _) (own_MP _ _ _ _) (hAa.b.upd2 HmD2.out Hmodu.out)).2.1⟩
         case measure =>
          obtain ⟨Fa,Ga,hAa⟩:=HSa.out
          have hmr : m2 ≠ r:=fun e => (hAa.bf m2 (by rw [hAa.b.2.2.1];simp)).2 (by simp [e])
          have h3:=HRa.out.mod Hmodu.out (by have:=hAa.b.2.2.2;simpa using this) (by simpa using fun e => hmr e.symm)
          rw [h3.left_eq,Hmeas.out];simp
        | false =>
         clear hbb
         obtain ⟨wu,D2,hup2,hmD2,hpmD,hmodu,hszu⟩:=mh_upd encB_keys Tryz.underlying38 hDa hhr true
         simp only [hdV,handleC,encB] at hup2
         obtain ⟨HDa,Hszu,Hmodu,HmD2,HpmD⟩:=hid5 hDa hszu hmodu hmD2 hpmD
         clear hDa hszu hmodu hmD2 hpmD
         go_wp2_with fail
         refine ⟨rfl,?_⟩
         go_wp2_with fail
         go_roundw
         case rel =>
          obtain ⟨Fa,Ga,hAa⟩:=HSa.out
          have hmr : m2 ≠ r:=fun e => (hAa.bf m2 (by rw [hAa.b.2.2.1];simp)).2 (by simp [e])
          exact ⟨t1 ++ t2,D2,(HRa.out.mod Hmodu.out (by have:=hAa.b.2.2.2;simpa using this) (by simpa using fun e => hmr e.symm)),(fun y hy => Hsub.out y (by rcases List.mem_append.1 hy with h | h <;> simp [h])),(hAa.right (own_X _ _ _ _) (own_MP _ _ _ _) (hAa.b.upd2 HmD2.out Hmodu.out)).1,HTi.out.look HxT.out (by rw [Hlv.out];exact HpmD.out),HBa.out.trans (hAa.right (own_X _ _ _ _) (own_MP _ _ _ _) (hAa.b.upd2 HmD2.out Hmodu.out)).2.1⟩
         case measure =>
          obtain ⟨Fa,Ga,hAa⟩:=HSa.out
          have hmr : m2 ≠ r:=fun e => (hAa.bf m2 (by rw [hAa.b.2.2.1];simp)).2 (by simp [e])
          have h3:=HRa.out.mod Hmodu.out (by have:=hAa.b.2.2.2;simpa using this) (by simpa using fun e => hmr e.symm)
          rw [h3.left_eq,Hmeas.out];simp
   ·have hB7:=hB6
    have hS7:=hS6
    have hmT : MapAt Tryz.prog 43 w6 m1 (T.map encB):=by obtain ⟨F6,G6,hA6⟩:=hS6;exact hA6.b.1
    have hT7:=HT.out.other Hpl.out hsp
    have hT7l : T.length ≤ k + 1:=by have:=HTl.out;omega
    clear hS6 hB6
    by_cases hd : d = 1
    ·subst hd
     have he : (e0 == 0) = false:=beq_eq_false_iff_ne.2 fun e => hsp ⟨rfl,e⟩
     clear hsp
     obtain ⟨o,hrun,hR0⟩:=MapAt.range Tryz.underlying38 hmT
     obtain ⟨w8,hw8,hb8,-,hs8⟩:=box1 w6 o
     rw [hw8] at hR0
     have hS8:=Sep.fresh (own_X _ _ _ _) (own_MP _ _ _ _) hS7 hb8 w6.heap.size (Nat.le_refl _) (by omega)
     have hB8:=hB7.trans (hb8.mono hB7.size)
     have hrLo:=hB7.size
     obtain ⟨HR0,HS8,HB8,HT7,HT7l,HrLo⟩:=hid6 hR0 hS8 hB8 hT7 hT7l hrLo
     clear hR0 hS8 hB8 hT7 hT7l hrLo
     clear hS7 hb8 hmT hB7 hs8
     go_wp2_with fail
     clear hrun hw8
     generalize w6.heap.size = r at *
     go_loopw [47] (fun _ wr => ∃ (ts D1 : List (Hd × Bool)),RangeAt Tryz.prog 43 wr m1 r (T.map encB) (ts.map encB) ∧ (∀ y ∈ ts,y ∈ T) ∧ Sep w.heap.size [r] (RepX z sl' R' B') (MapP m1 m2 T D1) wr ∧ THok sl' T D1 ∧ Below w.heap.size w wr) (fun _ wr => wr.rangeLeft m1 r)
     case atStart => exact ⟨T,D,HR0.out,fun _ h => h,HS8.out,HT7.out,HB8.out⟩
     case round =>
      obtain ⟨ts,D1,hR,hsub,hS,hTi,hBr⟩:=hrel
      by_cases hts : ts = []
      ·subst hts
       have hov:=fun ty => RangeAt.over (P:=Tryz.prog) (by simpa using hR) ty
       obtain ⟨HSe,HTe,HBe⟩:=hid3 hS hTi hBr
       clear hS hTi hBr
       clear hR hsub
       go_wp2_with fail
       go_roundw
       case rel => exact ⟨k + 1,sl',R',B',T,D1,by have:=Hlt.out;omega,by go_num,HSe.out.drop (by simp),HO'.out,Hq'.out,HTe.out,HT7l.out,HBe.out⟩
       case measure => have:=Hlt.out;simp [Go.RowKit.intOf];omega
      ·obtain ⟨t1,x,t2,wn,rfl,hn,hen,hx,hR2,hm2,hs2⟩:=hR.nextE hts
       have hxT:=hsub x (by simp)
       have hmeas:=hR.left_eq
       have hSn:=Sep.modZ (own_X _ _ _ _) (own_MP _ _ _ _) hS hm2 (by simp)
       have hBn:=hBr.trans (hm2.toBelow (by simpa using HrLo.out) hBr.size)
       have hhr:=(hTi.told x hxT).2
       obtain ⟨⟨s',g'⟩,b'⟩:=x
       simp only [encB,hdV,handleC] at hn hen
       obtain ⟨wb,hwb,hbb,hzb,hsb⟩:=box1 wn (.cells #[.int .i64 s',.int .i64 g'] 43)
       have hSb:=Sep.below (own_X _ _ _ _) (own_MP _ _ _ _) hSn hbb
       have hRb:=hR2.mod (Mod.ofBelow hbb) (by simp) (by simp)
       have hBb:=hBn.trans hSb.2.1
       have hSb:=hSb.1
       obtain ⟨q0,q1,ql⟩:=cells2 hzb
       obtain ⟨FX,GX,hAb⟩:=hSb
       obtain ⟨p,f,hV⟩:=hAb.a
       have hSb : Sep w.heap.size [r] (RepX z sl' R' B') (MapP m1 m2 T D1) wb:=⟨FX,GX,hAb⟩
       have hge:=getE_live HO'.out.w s' g'
       have hGet:=fun (U : World) (hb : Below wb.heap.size wb U) => (by
        obtain ⟨FW,h1⟩:=(hV.below hb).w_
        exact wget_any h1 s' g' : Calls Tryz.prog 12 #[.pointer (some ⟨p,0,none⟩),.agg #[.int .i64 s',.int .i64 g']] U (fun e w' => e = .returned (.tuple #[.agg (btC (getB R' (s',g'))).toArray,.int .i64 (getE R' (s',g'))]) ∧ Below U.heap.size U w'))
       generalize getE R' (s',g') = ge at *
       generalize getB R' (s',g') = bt at *
       obtain ⟨K',a0',a1',a2',a3',a4',a5',a6',a7'⟩:=bt
       simp only [btC] at hGet
       obtain ⟨zl,hzl⟩ : ∃ zl,zl = ints [0,0,0,0,0,0,0,0,0]:=⟨_,rfl⟩
       obtain ⟨rl,hrl⟩ : ∃ rl,rl = ints [K',a0',a1',a2',a3',a4',a5',a6',a7']:=⟨_,rfl⟩
       obtain ⟨HV,HSb,Hge,HGet,Hzl,Hrl,Hhr,HxT,Hmeas,Hsub,HTi,HRb,HBb,Hzb⟩:=hid14 hV hSb hge hGet hzl hrl hhr hxT hmeas hsub hTi hRb hBb hzb
       clear hV hSb hge hGet hzl hrl hhr hxT hmeas hsub hTi hRb hBb hzb
       clear hR hS hSn hR2 hm2 hs2 hbb hsb hBr hBn hAb
       go_wp2_with fail
       clear hwb
       refine wp_planK [9] 11 [0] [some 51,some 52,some 53,some 54,some 55,some 56,some 50,some 57,some 58,some 11,none,some 12] [[],[0],[0,1],[0,1,2],[],[0,1,2,3,4],[0,1,2,3,4,5],[0,1,2,3,4,5,6],[0,1,2,3,4,5,6],[],[0,1,2,3,4,5,6,7,9],[0,1,2,3,4,5,6,7,8,9,10]] [0,1,2,3,4,5,6,7,8,9,10] (fun Lf σ W => IGet 9 10 wb zl.toArray rl.toArray 41 Lf σ W) mixed rfl (by kernel_rfl) (by decide) (by decide) (by decide) (IGet.start below_drew) rfl ?_
       iterate 11 apply Exists.intro
       refine ⟨rfl,?_,?_⟩
       ·simp only [tS,List.take_zero,AllFrom.cons_eq,AllFrom.nil_eq,OpGoalK]
        refine ⟨?_,?_,?_,?_,?_,?_,?_,?_,?_,?_,?_,trivial⟩
        all_goals (intro L' σ V h1 h2 h3 hI hp;have HA1:=Lib.hid h1;have HA2:=Lib.hid h2;have HA3:=Lib.hid h3;clear h1 h2 h3;(try simp only [gZ,gS,preK_cons,preK_nil] at hp);(try simp only [List.mem_cons,List.not_mem_nil,or_false,eq_self,Nat.reduceEqDiff,Nat.reduceAdd,Nat.zero_add,false_or,true_or,true_and,and_true] at hp);(first | (have hq : True:=hp;clear hq hp) | skip);have HI:=Lib.hid hI;clear hI)
        all_goals (
         have hA:=(HV.out.below HI.out.b).cells
         have hc0:=hA.1;have hzz:=hA.2.2
         have hzV:=(Mod.ofBelow HI.out.b).keep Hzb.out (by simp)
         have q0:=blk_cell hzV 0
         have q1:=blk_cell hzV 1
         simp only [eA,eZ,eS] at q0 q1
         have ql:=blk_lt hzV
         clear hA hzV)
        iterate 5 · (go_simp;exact ⟨.inr rfl,HI.out.read (by decide) (by decide) _⟩)
        ·(go_simp;refine (HGet.out V HI.out.b).mono ?_;rintro e V2 ⟨rfl,hb⟩;exact ⟨_,rfl,.inr rfl,(HI.out.step hb).read (by decide) (by decide) _⟩)
        iterate 3 · (go_simp;exact ⟨.inr rfl,HI.out.read (by decide) (by decide) _⟩)
        ·go_simp
         have hmk:=HI.out.made (by decide) (HA3.out 10 (by decide))
         rw [Hzl.out] at hmk ⊢
         exact PostK.mk (c:=undef) (.inl (by decide)) hmk
        ·simp only [wantedL_none,if_true,Nat.reduceAdd,Nat.zero_add]
         have x3:=HA1.out
         simp only [Nat.reduceAdd,Nat.zero_add] at x3
         generalize hρ : Act.eval _ = ρ
         refine IGet.yr_stored HI.out (by decide) (HA2.out 9 (by decide)) x3 (by rw [Hzl.out,Hrl.out];rfl) 41 (.tmp 11) (.tmp 57) rfl ?_ ?_ (by rw [Hrl.out];kernel_rfl) (by rw [Hrl.out];exact ints_one _) (fun V' hV' => PostK.mk (c:=undef) (.inr rfl) hV')
         ·rw [← hρ]
          go_simp
         ·rw [← hρ]
          go_simp
          rw [Hrl.out]
          rfl
       ·intro L' σ Va h1 hI hp
        have hba:=hI.b
        have hza:=(Mod.ofBelow hba).keep Hzb.out (by simp)
        have HSa:=Lib.hid (Sep.below (own_X _ _ _ _) (own_MP _ _ _ _) HSb.out hba).1
        have HBa:=Lib.hid (HBb.out.trans (Sep.below (own_X _ _ _ _) (own_MP _ _ _ _) HSb.out hba).2.1)
        have HRa:=Lib.hid (HRb.out.mod (Mod.ofBelow hba) (by simp) (by simp))
        obtain ⟨Fa,Ga,hAa⟩:=HSa.out
        have hDa:=hAa.b.2.1
        have hhr:=Hhr.out
        have hlkD : ∃ bb,(Instr.lookup 38 (.map (some m2)) (.agg #[.int .i64 s',.int .i64 g']) false).run Tryz.prog Va = .ok (.bool bb) Va ∧ (bb = true → liveB sl' s' g' = false):=by
         by_cases hin : ∃ b0,((s',g'),b0) ∈ D1
         ·obtain ⟨b0,hb0⟩:=hin
          exact ⟨b0,mh_in encB_keys Tryz.underlying38 hDa hhr hb0 false,fun e => HTi.out.gone (x:=(s',g')) (by rw [← e];exact hb0)⟩
         ·exact ⟨false,mh_out encB_keys Tryz.underlying38 (Tryz.zeroValue4 _) hDa hhr (fun x hx e => hin ⟨x.2,by rw [← e];exact hx⟩) false,fun e => by cases e⟩
        obtain ⟨bb,hlkD,hbb⟩:=hlkD
        clear h1 hAa
        simp only [preK_cons,preK_nil,gZ,gS] at hp;simp only [List.mem_cons,List.not_mem_nil,or_false,eq_self,Nat.reduceEqDiff,false_or,true_or,true_and,and_true] at hp
        obtain ⟨q0,q1,ql⟩:=cells2 hza
        obtain ⟨Hba,Hza⟩:=hid2 hba hza
        clear hba hza
        clear hI
        simp only [dS,List.drop_zero]
        go_simp
        clear hp
        have hge:=Hge.out
        cases hlv : liveB sl' s' g' with
        | true =>
         have Hlv:=Lib.hid hlv
         rw [hlv] at hge hbb
         cases bb with
         | true => exact absurd (hbb rfl) (by simp)
         | false =>
          simp only [if_true] at hge
          subst hge
          clear hbb hlv
          obtain ⟨wu,D2,hup2,hmD2,hpmD,hmodu,hszu⟩:=mh_upd encB_keys Tryz.underlying38 hDa hhr false
          simp only [hdV,handleC,encB] at hup2
          obtain ⟨HDa,Hszu,Hmodu,HmD2,HpmD⟩:=hid5 hDa hszu hmodu hmD2 hpmD
          clear hDa hszu hmodu hmD2 hpmD
          go_wp2_with fail
          refine ⟨rfl,?_⟩
          go_wp2_with fail
          go_roundw
          case rel =>
           obtain ⟨Fa,Ga,hAa⟩:=HSa.out
           have hmr : m2 ≠ r:=fun e => (hAa.bf m2 (by rw [hAa.b.2.2.1];simp)).2 (by simp [e])
           exact ⟨t1 ++ t2,D2,(HRa.out.mod Hmodu.out (by have:=hAa.b.2.2.2;simpa using this) (by simpa using fun e => hmr e.symm)),(fun y hy => Hsub.out y (by rcases List.mem_append.1 hy with h | h <;> simp [h])),(hAa.right (own_X _ _ _ _) (own_MP _ _ _ _) (hAa.b.upd2 HmD2.out Hmodu.out)).1,HTi.out.look HxT.out (by rw [Hlv.out];exact HpmD.out),HBa.out.trans (hAa.right (own_X _ _ _ _) (own_MP _ _ _ _) (hAa.b.upd2 HmD2.out Hmodu.out)).2.1⟩
          case measure =>
           obtain ⟨Fa,Ga,hAa⟩:=HSa.out
           have hmr : m2 ≠ r:=fun e => (hAa.bf m2 (by rw [hAa.b.2.2.1];simp)).2 (by simp [e])
           have h3:=HRa.out.mod Hmodu.out (by have:=hAa.b.2.2.2;simpa using this) (by simpa using fun e => hmr e.symm)
           rw [h3.left_eq,Hmeas.out];simp
        | false =>
         have Hlv:=Lib.hid hlv
         rw [hlv] at hge
         simp only [Bool.false_eq_true,if_false] at hge
         subst hge
         clear hlv
         cases bb with
         | true =>
          clear hbb
          obtain ⟨wu,D2,hup2,hmD2,hpmD,hmodu,hszu⟩:=mh_upd encB_keys Tryz.underlying38 hDa hhr true
          simp only [hdV,handleC,encB] at hup2
          obtain ⟨HDa,Hszu,Hmodu,HmD2,HpmD⟩:=hid5 hDa hszu hmodu hmD2 hpmD
          clear hDa hszu hmodu hmD2 hpmD
          go_wp2_with fail
          refine ⟨rfl,?_⟩
          go_wp2_with fail
          go_roundw
          case rel =>
           obtain ⟨Fa,Ga,hAa⟩:=HSa.out
           have hmr : m2 ≠ r:=fun e => (hAa.bf m2 (by rw [hAa.b.2.2.1];simp)).2 (by simp [e])
           exact ⟨t1 ++ t2,D2,(HRa.out.mod Hmodu.out (by have:=hAa.b.2.2.2;simpa using this) (by simpa using fun e => hmr e.symm)),(fun y hy => Hsub.out y (by rcases List.mem_append.1 hy with h | h <;> simp [h])),(hAa.right (own_X _ _ _ _) (own_MP _ _ _ _) (hAa.b.upd2 HmD2.out Hmodu.out)).1,HTi.out.look HxT.out (by rw [Hlv.out];exact HpmD.out),HBa.out.trans (hAa.right (own_X _ _ _ _) (own_MP _ _ _ _) (hAa.b.upd2 HmD2.out Hmodu.out)).2.1⟩
          case measure =>
           obtain ⟨Fa,Ga,hAa⟩:=HSa.out
           have hmr : m2 ≠ r:=fun e => (hAa.bf m2 (by rw [hAa.b.2.2.1];simp)).2 (by simp [e])
           have h3:=HRa.out.mod Hmodu.out (by have:=hAa.b.2.2.2;simpa using this) (by simpa using fun e => hmr e.symm)
           rw [h3.left_eq,Hmeas.out];simp
         | false =>
          clear hbb
          obtain ⟨wu,D2,hup2,hmD2,hpmD,hmodu,hszu⟩:=mh_upd encB_keys Tryz.underlying38 hDa hhr true
          simp only [hdV,handleC,encB] at hup2
          obtain ⟨HDa,Hszu,Hmodu,HmD2,HpmD⟩:=hid5 hDa hszu hmodu hmD2 hpmD
          clear hDa hszu hmodu hmD2 hpmD
          go_wp2_with fail
          refine ⟨rfl,?_⟩
          go_wp2_with fail
          go_roundw
          case rel =>
           obtain ⟨Fa,Ga,hAa⟩:=HSa.out
           have hmr : m2 ≠ r:=fun e => (hAa.bf m2 (by rw [hAa.b.2.2.1];simp)).2 (by simp [e])
           exact ⟨t1 ++ t2,D2,(HRa.out.mod Hmodu.out (by have:=hAa.b.2.2.2;simpa using this) (by simpa using fun e => hmr e.symm)),(fun y hy => Hsub.out y (by rcases List.mem_append.1 hy with h | h <;> simp [h])),(hAa.right (own_X _ _ _ _) (own_MP _ _ _ _) (hAa.b.upd2 HmD2.out Hmodu.out)).1,HTi.out.look HxT.out (by rw [Hlv.out];exact HpmD.out),HBa.out.trans (hAa.right (own_X _ _ _ _) (own_MP _ _ _ _) (hAa.b.upd2 HmD2.out Hmodu.out)).2.1⟩
          case measure =>
           obtain ⟨Fa,Ga,hAa⟩:=HSa.out
           have hmr : m2 ≠ r:=fun e => (hAa.bf m2 (by rw [hAa.b.2.2.1];simp)).2 (by simp [e])
           have h3:=HRa.out.mod Hmodu.out (by have:=hAa.b.2.2.2;simpa using this) (by simpa using fun e => hmr e.symm)
           rw [h3.left_eq,Hmeas.out];simp
    ·clear hsp
     obtain ⟨o,hrun,hR0⟩:=MapAt.range Tryz.underlying38 hmT
     obtain ⟨w8,hw8,hb8,-,hs8⟩:=box1 w6 o
     rw [hw8] at hR0
     have hS8:=Sep.fresh (own_X _ _ _ _) (own_MP _ _ _ _) hS7 hb8 w6.heap.size (Nat.le_refl _) (by omega)
     have hB8:=hB7.trans (hb8.mono hB7.size)
     have hrLo:=hB7.size
     obtain ⟨HR0,HS8,HB8,HT7,HT7l,HrLo⟩:=hid6 hR0 hS8 hB8 hT7 hT7l hrLo
     clear hR0 hS8 hB8 hT7 hT7l hrLo
     clear hS7 hb8 hmT hB7 hs8
     go_wp2_with fail
     clear hrun hw8
     generalize w6.heap.size = r at *
     go_loopw [47] (fun _ wr => ∃ (ts D1 : List (Hd × Bool)),RangeAt Tryz.prog 43 wr m1 r (T.map encB) (ts.map encB) ∧ (∀ y ∈ ts,y ∈ T) ∧ Sep w.heap.size [r] (RepX z sl' R' B') (MapP m1 m2 T D1) wr ∧ THok sl' T D1 ∧ Below w.heap.size w wr) (fun _ wr => wr.rangeLeft m1 r)
     case atStart => exact ⟨T,D,HR0.out,fun _ h => h,HS8.out,HT7.out,HB8.out⟩
     case round =>
      obtain ⟨ts,D1,hR,hsub,hS,hTi,hBr⟩:=hrel
      by_cases hts : ts = []
      ·subst hts
       have hov:=fun ty => RangeAt.over (P:=Tryz.prog) (by simpa using hR) ty
       obtain ⟨HSe,HTe,HBe⟩:=hid3 hS hTi hBr
       clear hS hTi hBr
       clear hR hsub
       go_wp2_with fail
       go_roundw
       case rel => exact ⟨k + 1,sl',R',B',T,D1,by have:=Hlt.out;omega,by go_num,HSe.out.drop (by simp),HO'.out,Hq'.out,HTe.out,HT7l.out,HBe.out⟩
       case measure => have:=Hlt.out;simp [Go.RowKit.intOf];omega
      ·obtain ⟨t1,x,t2,wn,rfl,hn,hen,hx,hR2,hm2,hs2⟩:=hR.nextE hts
       have hxT:=hsub x (by simp)
       have hmeas:=hR.left_eq
       have hSn:=Sep.modZ (own_X _ _ _ _) (own_MP _ _ _ _) hS hm2 (by simp)
       have hBn:=hBr.trans (hm2.toBelow (by simpa using HrLo.out) hBr.size)
       have hhr:=(hTi.told x hxT).2
       obtain ⟨⟨s',g'⟩,b'⟩:=x
       simp only [encB,hdV,handleC] at hn hen
       obtain ⟨wb,hwb,hbb,hzb,hsb⟩:=box1 wn (.cells #[.int .i64 s',.int .i64 g'] 43)
       have hSb:=Sep.below (own_X _ _ _ _) (own_MP _ _ _ _) hSn hbb
       have hRb:=hR2.mod (Mod.ofBelow hbb) (by simp) (by simp)
       have hBb:=hBn.trans hSb.2.1
       have hSb:=hSb.1
       obtain ⟨q0,q1,ql⟩:=cells2 hzb
       obtain ⟨FX,GX,hAb⟩:=hSb
       obtain ⟨p,f,hV⟩:=hAb.a
       have hSb : Sep w.heap.size [r] (RepX z sl' R' B') (MapP m1 m2 T D1) wb:=⟨FX,GX,hAb⟩
       have hge:=getE_live HO'.out.w s' g'
       have hGet:=fun (U : World) (hb : Below wb.heap.size wb U) => (by
        obtain ⟨FW,h1⟩:=(hV.below hb).w_
        exact wget_any h1 s' g' : Calls Tryz.prog 12 #[.pointer (some ⟨p,0,none⟩),.agg #[.int .i64 s',.int .i64 g']] U (fun e w' => e = .returned (.tuple #[.agg (btC (getB R' (s',g'))).toArray,.int .i64 (getE R' (s',g'))]) ∧ Below U.heap.size U w'))
       generalize getE R' (s',g') = ge at *
       generalize getB R' (s',g') = bt at *
       obtain ⟨K',a0',a1',a2',a3',a4',a5',a6',a7'⟩:=bt
       simp only [btC] at hGet
       obtain ⟨zl,hzl⟩ : ∃ zl,zl = ints [0,0,0,0,0,0,0,0,0]:=⟨_,rfl⟩
       obtain ⟨rl,hrl⟩ : ∃ rl,rl = ints [K',a0',a1',a2',a3',a4',a5',a6',a7']:=⟨_,rfl⟩
       obtain ⟨HV,HSb,Hge,HGet,Hzl,Hrl,Hhr,HxT,Hmeas,Hsub,HTi,HRb,HBb,Hzb⟩:=hid14 hV hSb hge hGet hzl hrl hhr hxT hmeas hsub hTi hRb hBb hzb
       clear hV hSb hge hGet hzl hrl hhr hxT hmeas hsub hTi hRb hBb hzb
       clear hR hS hSn hR2 hm2 hs2 hbb hsb hBr hBn hAb
       go_wp2_with fail
       clear hwb
       refine wp_planK [9] 11 [0] [some 51,some 52,some 53,some 54,some 55,some 56,some 50,some 57,some 58,some 11,none,some 12] [[],[0],[0,1],[0,1,2],[],[0,1,2,3,4],[0,1,2,3,4,5],[0,1,2,3,4,5,6],[0,1,2,3,4,5,6],[],[0,1,2,3,4,5,6,7,9],[0,1,2,3,4,5,6,7,8,9,10]] [0,1,2,3,4,5,6,7,8,9,10] (fun Lf σ W => IGet 9 10 wb zl.toArray rl.toArray 41 Lf σ W) mixed rfl (by kernel_rfl) (by decide) (by decide) (by decide) (IGet.start below_drew) rfl ?_
       iterate 11 apply Exists.intro
       refine ⟨rfl,?_,?_⟩
       ·simp only [tS,List.take_zero,AllFrom.cons_eq,AllFrom.nil_eq,OpGoalK]
        refine ⟨?_,?_,?_,?_,?_,?_,?_,?_,?_,?_,?_,trivial⟩
        all_goals (intro L' σ V h1 h2 h3 hI hp;have HA1:=Lib.hid h1;have HA2:=Lib.hid h2;have HA3:=Lib.hid h3;clear h1 h2 h3;(try simp only [gZ,gS,preK_cons,preK_nil] at hp);(try simp only [List.mem_cons,List.not_mem_nil,or_false,eq_self,Nat.reduceEqDiff,Nat.reduceAdd,Nat.zero_add,false_or,true_or,true_and,and_true] at hp);(first | (have hq : True:=hp;clear hq hp) | skip);have HI:=Lib.hid hI;clear hI)
        all_goals (
         have hA:=(HV.out.below HI.out.b).cells
         have hc0:=hA.1;have hzz:=hA.2.2
         have hzV:=(Mod.ofBelow HI.out.b).keep Hzb.out (by simp)
         have q0:=blk_cell hzV 0
         have q1:=blk_cell hzV 1
         simp only [eA,eZ,eS] at q0 q1
         have ql:=blk_lt hzV
         clear hA hzV)
        iterate 5 · (go_simp;exact ⟨.inr rfl,HI.out.read (by decide) (by decide) _⟩)
        ·(go_simp;refine (HGet.out V HI.out.b).mono ?_;rintro e V2 ⟨rfl,hb⟩;exact ⟨_,rfl,.inr rfl,(HI.out.step hb).read (by decide) (by decide) _⟩)
        iterate 3 · (go_simp;exact ⟨.inr rfl,HI.out.read (by decide) (by decide) _⟩)
        ·go_simp
         have hmk:=HI.out.made (by decide) (HA3.out 10 (by decide))
         rw [Hzl.out] at hmk ⊢
         exact PostK.mk (c:=undef) (.inl (by decide)) hmk
        ·simp only [wantedL_none,if_true,Nat.reduceAdd,Nat.zero_add]
         have x3:=HA1.out
         simp only [Nat.reduceAdd,Nat.zero_add] at x3
         generalize hρ : Act.eval _ = ρ
         refine IGet.yr_stored HI.out (by decide) (HA2.out 9 (by decide)) x3 (by rw [Hzl.out,Hrl.out];rfl) 41 (.tmp 11) (.tmp 57) rfl ?_ ?_ (by rw [Hrl.out];kernel_rfl) (by rw [Hrl.out];exact ints_one _) (fun V' hV' => PostK.mk (c:=undef) (.inr rfl) hV')
         ·rw [← hρ]
          go_simp
         ·rw [← hρ]
          go_simp
          rw [Hrl.out]
          rfl
       ·intro L' σ Va h1 hI hp
        have hba:=hI.b
        have hza:=(Mod.ofBelow hba).keep Hzb.out (by simp)
        have HSa:=Lib.hid (Sep.below (own_X _ _ _ _) (own_MP _ _ _ _) HSb.out hba).1
        have HBa:=Lib.hid (HBb.out.trans (Sep.below (own_X _ _ _ _) (own_MP _ _ _ _) HSb.out hba).2.1)
        have HRa:=Lib.hid (HRb.out.mod (Mod.ofBelow hba) (by simp) (by simp))
        obtain ⟨Fa,Ga,hAa⟩:=HSa.out
        have hDa:=hAa.b.2.1
        have hhr:=Hhr.out
        have hlkD : ∃ bb,(Instr.lookup 38 (.map (some m2)) (.agg #[.int .i64 s',.int .i64 g']) false).run Tryz.prog Va = .ok (.bool bb) Va ∧ (bb = true → liveB sl' s' g' = false):=by
         by_cases hin : ∃ b0,((s',g'),b0) ∈ D1
         ·obtain ⟨b0,hb0⟩:=hin
          exact ⟨b0,mh_in encB_keys Tryz.underlying38 hDa hhr hb0 false,fun e => HTi.out.gone (x:=(s',g')) (by rw [← e];exact hb0)⟩
         ·exact ⟨false,mh_out encB_keys Tryz.underlying38 (Tryz.zeroValue4 _) hDa hhr (fun x hx e => hin ⟨x.2,by rw [← e];exact hx⟩) false,fun e => by cases e⟩
        obtain ⟨bb,hlkD,hbb⟩:=hlkD
        clear h1 hAa
        simp only [preK_cons,preK_nil,gZ,gS] at hp;simp only [List.mem_cons,List.not_mem_nil,or_false,eq_self,Nat.reduceEqDiff,false_or,true_or,true_and,and_true] at hp
        obtain ⟨q0,q1,ql⟩:=cells2 hza
        obtain ⟨Hba,Hza⟩:=hid2 hba hza
        clear hba hza
        clear hI
        simp only [dS,List.drop_zero]
        go_simp
        clear hp
        have hge:=Hge.out
        cases hlv : liveB sl' s' g' with
        | true =>
         have Hlv:=Lib.hid hlv
         rw [hlv] at hge hbb
         cases bb with
         | true => exact absurd (hbb rfl) (by simp)
         | false =>
          simp only [if_true] at hge
          subst hge
          clear hbb hlv
          obtain ⟨wu,D2,hup2,hmD2,hpmD,hmodu,hszu⟩:=mh_upd encB_keys Tryz.underlying38 hDa hhr false
          simp only [hdV,handleC,encB] at hup2
          obtain ⟨HDa,Hszu,Hmodu,HmD2,HpmD⟩:=hid5 hDa hszu hmodu hmD2 hpmD
          clear hDa hszu hmodu hmD2 hpmD
          go_wp2_with fail
          refine ⟨rfl,?_⟩
          go_wp2_with fail
          go_roundw
          case rel =>
           obtain ⟨Fa,Ga,hAa⟩:=HSa.out
           have hmr : m2 ≠ r:=fun e => (hAa.bf m2 (by rw [hAa.b.2.2.1];simp)).2 (by simp [e])
           exact ⟨t1 ++ t2,D2,(HRa.out.mod Hmodu.out (by have:=hAa.b.2.2.2;simpa using this) (by simpa using fun e => hmr e.symm)),(fun y hy => Hsub.out y (by rcases List.mem_append.1 hy with h | h <;> simp [h])),(hAa.right (own_X _ _ _ _) (own_MP _ _ _ _) (hAa.b.upd2 HmD2.out Hmodu.out)).1,HTi.out.look HxT.out (by rw [Hlv.out];exact HpmD.out),HBa.out.trans (hAa.right (own_X _ _ _ _) (own_MP _ _ _ _) (hAa.b.upd2 HmD2.out Hmodu.out)).2.1⟩
          case measure =>
           obtain ⟨Fa,Ga,hAa⟩:=HSa.out
           have hmr : m2 ≠ r:=fun e => (hAa.bf m2 (by rw [hAa.b.2.2.1];simp)).2 (by simp [e])
           have h3:=HRa.out.mod Hmodu.out (by have:=hAa.b.2.2.2;simpa using this) (by simpa using fun e => hmr e.symm)
           rw [h3.left_eq,Hmeas.out];simp
        | false =>
         have Hlv:=Lib.hid hlv
         rw [hlv] at hge
         simp only [Bool.false_eq_true,if_false] at hge
         subst hge
         clear hlv
         cases bb with
         | true =>
          clear hbb
          obtain ⟨wu,D2,hup2,hmD2,hpmD,hmodu,hszu⟩:=mh_upd encB_keys Tryz.underlying38 hDa hhr true
          simp only [hdV,handleC,encB] at hup2
          obtain ⟨HDa,Hszu,Hmodu,HmD2,HpmD⟩:=hid5 hDa hszu hmodu hmD2 hpmD
          clear hDa hszu hmodu hmD2 hpmD
          go_wp2_with fail
          refine ⟨rfl,?_⟩
          go_wp2_with fail
          go_roundw
          case rel =>
           obtain ⟨Fa,Ga,hAa⟩:=HSa.out
           have hmr : m2 ≠ r:=fun e => (hAa.bf m2 (by rw [hAa.b.2.2.1];simp)).2 (by simp [e])
           exact ⟨t1 ++ t2,D2,(HRa.out.mod Hmodu.out (by have:=hAa.b.2.2.2;simpa using this) (by simpa using fun e => hmr e.symm)),(fun y hy => Hsub.out y (by rcases List.mem_append.1 hy with h | h <;> simp [h])),(hAa.right (own_X _ _ _ _) (own_MP _ _ _ _) (hAa.b.upd2 HmD2.out Hmodu.out)).1,HTi.out.look HxT.out (by rw [Hlv.out];exact HpmD.out),HBa.out.trans (hAa.right (own_X _ _ _ _) (own_MP _ _ _ _) (hAa.b.upd2 HmD2.out Hmodu.out)).2.1⟩
          case measure =>
           obtain ⟨Fa,Ga,hAa⟩:=HSa.out
           have hmr : m2 ≠ r:=fun e => (hAa.bf m2 (by rw [hAa.b.2.2.1];simp)).2 (by simp [e])
           have h3:=HRa.out.mod Hmodu.out (by have:=hAa.b.2.2.2;simpa using this) (by simpa using fun e => hmr e.symm)
           rw [h3.left_eq,Hmeas.out];simp
         | false =>
          clear hbb
          obtain ⟨wu,D2,hup2,hmD2,hpmD,hmodu,hszu⟩:=mh_upd encB_keys Tryz.underlying38 hDa hhr true
          simp only [hdV,handleC,encB] at hup2
          obtain ⟨HDa,Hszu,Hmodu,HmD2,HpmD⟩:=hid5 hDa hszu hmodu hmD2 hpmD
          clear hDa hszu hmodu hmD2 hpmD
          go_wp2_with fail
          refine ⟨rfl,?_⟩
          go_wp2_with fail
          go_roundw
          case rel =>
           obtain ⟨Fa,Ga,hAa⟩:=HSa.out
           have hmr : m2 ≠ r:=fun e => (hAa.bf m2 (by rw [hAa.b.2.2.1];simp)).2 (by simp [e])
           exact ⟨t1 ++ t2,D2,(HRa.out.mod Hmodu.out (by have:=hAa.b.2.2.2;simpa using this) (by simpa using fun e => hmr e.symm)),(fun y hy => Hsub.out y (by rcases List.mem_append.1 hy with h | h <;> simp [h])),(hAa.right (own_X _ _ _ _) (own_MP _ _ _ _) (hAa.b.upd2 HmD2.out Hmodu.out)).1,HTi.out.look HxT.out (by rw [Hlv.out];exact HpmD.out),HBa.out.trans (hAa.right (own_X _ _ _ _) (own_MP _ _ _ _) (hAa.b.upd2 HmD2.out Hmodu.out)).2.1⟩
          case measure =>
           obtain ⟨Fa,Ga,hAa⟩:=HSa.out
           have hmr : m2 ≠ r:=fun e => (hAa.bf m2 (by rw [hAa.b.2.2.1];simp)).2 (by simp [e])
           have h3:=HRa.out.mod Hmodu.out (by have:=hAa.b.2.2.2;simpa using this) (by simpa using fun e => hmr e.symm)
           rw [h3.left_eq,Hmeas.out];simp
  ·obtain rfl : k = l.length:=by omega
   obtain ⟨FX,GX,hA⟩:=hS
   have H8:=Lib.hid (vx_state hA.a hO.len)
   have hcnt:=hT.count hO.w
   obtain ⟨HA,HB,Hcnt,HTl,HO⟩:=hid5 hA hB hcnt hTl hO
   clear hA hB hcnt hTl hO
   clear hT hq
   go_wp2_with fail
   refine H8.out.mono ?_
   rintro e w8 ⟨v1,v2,v3,rfl,g1,g2,g3,hb8⟩
   obtain ⟨A7,k7,rfl,-,-⟩:=row_slice g1
   obtain ⟨A8,k8,rfl,-,-⟩:=row_slice g2
   obtain ⟨A9,k9,rfl,-,-⟩:=row_slice g3
   have hfld : (Instr.field 30 (.agg #[.slice A7 (gensS sl).length k7,.slice A8 R.length k8,.slice A9 B.length k9]) 1).run Tryz.prog w8 = .ok (.slice A8 R.length k8) w8:=by
    first | rfl | (kernel_rfl) | (go_simp) | (simp [Instr.field,go_sem])
   have hB8:=HB.out.trans (hb8.mono HB.out.size)
   obtain ⟨es,clk,hblk,hok⟩:=HA.out.b.1.mod (Mod.ofBelow hb8) (by simp)
   have hes : es.size = T.length:=by
    have:=congrArg List.length hok.prs
    simpa [prs] using this
   have hlen : (Builtin.len_ #[38] 3 #[.map (some m1)]).run Tryz.prog w8 = .ok (.int .i64 es.size) w8:=by
    simp [Builtin.len_,run_underlying Tryz.underlying38,MapKept.run_getObj_map hblk,goInt]
   have hcmp : (R.length : Int) ≤ (es.size : Int):=by have:=Hcnt.out;omega
   obtain ⟨HB8,Hes,Hok⟩:=hid3 hB8 hes hok
   clear hB8 hes hok
   clear g1 g2 g3 hb8
   go_wp2
   go_ret
   exact ⟨by first | rfl | (simp;done) | (simp;omega),HB8.out⟩
set_option maxRecDepth 100000 in
theorem topHandles_law {H : Type} {enc : TypeId × Value → H} (W : World) (base : Nat) (args : Array Value) (ds : List (DataW H)) (ps : List MemPlace)
  (hval : ∀ (j : Nat) t v,Tryz.f4.params[j]? = some t → args[j]? = some v → Value.okWide Tryz.prog W .any base t v)
  (hA : DataW.TrodAll enc Tryz.prog W 0 (fun _ => true) true Tryz.f4.params.toList args.toList ds ps) (hlt : ∀ p ∈ ps,p.block < W.heap.size)
  (hsz : ∀ (j : Nat) t d,Tryz.f4.params.toList[j]? = some t → ds[j]? = some d → ∀ m ∈ d.weights Tryz.prog t,m ≤ reachBytes) :
  Calls Tryz.prog 4 args W fun e W' => e = .returned (.bool true) ∧ Below W.heap.size W W':=by
 rw [Tryz.params4] at hA hval hsz
 obtain ⟨v0,d0,rfl,rfl,h0⟩:=trodAll_one hA
 obtain ⟨A,n,c,zs,rfl,hnc,hc,hlen,hin,hL⟩:=open_slice_flat Tryz.underlying22 intCells_Op (k:=16) (by kernel_rfl) (by omega) (hval 0 22 v0 rfl rfl) h0 (fun p hp => hlt p (by simp [hp]))
 obtain ⟨la,hl,rfl⟩:=unflat opI 16 opI_mk n zs hlen
 have hs0:=slice_size Tryz.underlying22 h0 (hsz 0 22 d0 rfl rfl)
 rw [show Tryz.prog.bytesOf 45 = 128 by kernel_rfl,reach_val] at hs0
 rw [show ints (la.flatMap opI) = la.flatMap opC by unfold ints opC;rw [List.map_flatMap];rfl] at hL
 subst hl
 have hR : ∀ (l : List Ov),(∀ z ∈ l.flatMap opI,InR z) → ∀ x ∈ l,HdR x.2.2.1 ∧ HdR x.2.2.2.1:=fun l hin x hx => by
  have hz : ∀ z ∈ opI x,InR z:=fun z hz => hin z (List.mem_flatMap.2 ⟨x,hx,hz⟩)
  obtain ⟨d,⟨K,a0,a1,a2,a3,a4,a5,a6,a7⟩,⟨s,g⟩,⟨ts,tg⟩,kd,n⟩:=x
  exact ⟨⟨hz s (by simp [opI,btI,hdI]),hz g (by simp [opI,btI,hdI])⟩,⟨hz ts (by simp [opI,btI,hdI]),hz tg (by simp [opI,btI,hdI])⟩⟩
 exact topHandles_ok A c la W hs0 hL (hR la hin)
set_option maxRecDepth 100000 in
theorem topHandles_lifted (os : Os) (started : os.Started) (H : Type) (enc : TypeId × Value → H) :
  ReturnsInLeavingWide {} Tryz.checked os 4 .any (Rows.topHandlesSpec.pre6 enc Tryz.prog Tryz.f4 Rows.topHandlesRow.domain false) (Rows.topHandlesSpec.post enc Tryz.prog Tryz.f4 false true false false):=by
 refine ReturnsInHanded.leaving (law_lifted_sized (C:=Tryz.checked) (tb:=4) started own_ laid_ (by kernel_rfl) Tryz.func4 ?_ rfl rfl (by kernel_rfl) (fun ds h => ?_)
  (ChangeSpec.witness6 (enc:=enc) (C:=Tryz.checked) false ⟨#[],#[.slice none 0 0],[]⟩ 8 (by kernel_rfl) (by kernel_rfl) (by kernel_rfl) (by kernel_rfl)) ?_)
 ·intro t ht
  have : t = 22:=by simpa [Tryz.params4] using ht
  rcases this with rfl
  all_goals exact ⟨by kernel_rfl,of_decide_eq_true (by kernel_rfl)⟩
 ·match ds,h with
  | [d0],_ => rfl
 ·intro W base args ds ps hval hA hlt hsz
  exact topHandles_law W base args ds ps hval hA hlt hsz
set_option maxHeartbeats 4000000 in
theorem topHandles_closed : joinedFacts Tryz.prog 4 Tryz.f4 Rows.topHandlesSpec Rows.topHandlesRow = true:=by
 unfold joinedFacts
 repeat' (with_reducible refine and_intro ?_ ?_)
 ·as_aux_lemma => kernel_rfl
 ·exact laid_
 ·exact mapsRowed_
 ·as_aux_lemma => kernel_rfl
 ·as_aux_lemma => kernel_rfl
 ·as_aux_lemma => kernel_rfl
 ·exact stops_
 ·as_aux_lemma => kernel_rfl
 ·exact stopKnobs_
 ·as_aux_lemma => kernel_rfl
 ·as_aux_lemma => kernel_rfl
 ·as_aux_lemma => kernel_rfl
 ·as_aux_lemma => kernel_rfl
 ·as_aux_lemma => kernel_rfl
 ·as_aux_lemma => kernel_rfl
 ·as_aux_lemma => kernel_rfl
 ·as_aux_lemma => kernel_rfl
 ·as_aux_lemma => kernel_rfl
 ·as_aux_lemma => kernel_rfl
 ·as_aux_lemma => kernel_rfl
 ·as_aux_lemma => kernel_rfl
 ·as_aux_lemma => kernel_rfl
 ·exact plainKeys_
 ·as_aux_lemma => kernel_rfl
 ·exact stopsHeard_
 ·exact mayEnter_
 ·exact liftsFinal_
 ·exact make_
 ·as_aux_lemma => kernel_rfl
 ·as_aux_lemma => kernel_rfl
 ·as_aux_lemma => kernel_rfl
 ·as_aux_lemma => kernel_rfl
theorem topHandles_holds : Rows.TopHandlesSaid :=
 OpenClaim.holds_of_wide_leaving 4 Tryz.f4 rfl rfl rfl rfl rfl rfl rfl ⟨rfl,rfl,rfl,rfl,rfl⟩ rfl rfl rfl rfl rfl (by as_aux_lemma => kernel_rfl) Tryz.func4 topHandles_closed
  (of_decide_eq_true (by as_aux_lemma => kernel_rfl)) (by unfold Func.isWrapper;first | (rw [if_pos (by decide +kernel)];kernel_rfl) | (rw [if_neg (by decide +kernel)];exact ⟨rfl,rfl⟩))
  (fun os started H enc _ => topHandles_lifted os started H enc)
#print axioms topHandles_holds
end Go.Proofs.YtidbcolnkcbkoaaGreat
