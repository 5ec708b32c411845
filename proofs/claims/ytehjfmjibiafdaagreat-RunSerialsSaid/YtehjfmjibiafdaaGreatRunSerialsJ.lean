import Derived.Test.YtehjfmjibiafdaaGreatRunSerialsJ43
import Derived.Lib.SmallJoins
/- A part of the proof that RunSerials returns true. -/
namespace Go.Proofs.YtehjfmjibiafdaaGreat
open Go Go.RowKit Go.ChangeShapes Go.WideShapes Go.ChangeAt
attribute [local go_sem] AllFrom.cons_eq AllFrom.nil_eq putF_nil putF_cons wantedL_none wantedL_some OpGoalT OpGoalV OpGoalQ OpGoalA OpGoalK YieldsR preF_nil preF_cons
set_option maxRecDepth 100000 in
set_option maxHeartbeats 8000000 in
theorem runSerials_ok (A : Option Addr) (c : Nat) (l : List Ov) (A2 : Option Addr) (c2 : Nat) (ys : List Sy) (w : World) (hl : l.length * 128 ≤ 140737488351232) (hly : ys.length ≤ 9223372036854775807) (hA : Lies w w.heap.size A (l.flatMap opC)) (hR : ∀ x ∈ l,HdR x.2.2.1 ∧ HdR x.2.2.2.1) (hA2 : Lies w w.heap.size A2 (sysCells ys)) (hn : ∀ s ∈ ys,InR s.n) :
  Calls Tryz.prog 6 #[.slice A l.length c,.slice A2 ys.length c2] w fun e w' => e = .returned (.bool true) ∧ Below w.heap.size w w':=by
 have H1:=Lib.hid (zooNew_any w)
 have hl2 : l.length ≤ 1200000000000:=by omega
 obtain ⟨HA,HR,HA2,HN,HLy⟩:=hid5 hA hR hA2 hn hly
 clear hA hR hA2 hn hly
 clear hl
 go_enter Tryz.func6,Tryz.ntmps6
 go_wp2_with fail
 refine H1.out.mono ?_
 rintro e w1 ⟨z,p,f,F,rfl,hW,hF,hb⟩
 obtain ⟨w2,hw2⟩ : ∃ w2,w1.alloc (.cells #[.slice none 0 0,.slice none 0 0,.slice none 0 0,.slice none 0 0] 47) = w2:=⟨_,rfl⟩
 obtain ⟨hP,hB⟩:=pvq_start hW hF hb hw2
 obtain ⟨HP0,HBB⟩:=hid2 hP hB
 clear hP hB
 clear hW hF hb H1
 go_wp2_with fail
 clear hw2
 generalize w1.heap.size = q at *
 go_loopw [18] (fun i wr => ∃ (k : Nat) (sl : Sl) (R : List Rw) (B : List Bd),k ≤ l.length ∧ i = .int .i64 k ∧ PVQ w.heap.size [] z p f q sl R B sl R B wr ∧ (∀ b ∈ B,b.1 ∈ allS sl) ∧ Below w.heap.size w wr) (fun i _ => l.length - (Go.RowKit.intOf i).toNat)
 case atStart => exact ⟨0,[],[],[],by omega,rfl,HP0.out,by simp,HBB.out⟩
 case round =>
  obtain ⟨k,sl,R,B,hk,rfl,hP,hC,hB⟩:=hrel
  clear HP0 HBB
  have hsz:=hB.size
  by_cases hlt : k < l.length
  ·skip
   obtain ⟨ab,ao,rfl,hal,hc⟩:=HA.out.rec_at opC_len (by omega) hlt
   have hq : ∀ j u,(opC l[k])[j]? = some u → wr.cell? ((⟨ab,ao + k * 16,none⟩ : Addr).add j) = some u:=fun j u hu => (hB.cell (p:=(⟨ab,ao + k * 16,none⟩ : Addr).add j) (by rw [add_block];exact hal)).trans (by first | exact hc j u hu | (have:=hc j u hu;rw [Addr.add_mid];exact this))
   have hxr:=HR.out _ (List.getElem_mem hlt)
   have hki : (k : Int) < (l.length : Int):=by omega
   generalize l[k] = x at *
   obtain ⟨d,⟨K,a0,a1,a2,a3,a4,a5,a6,a7⟩,⟨s,g⟩,⟨ts,tg⟩,kd,n⟩:=x
   have hO:=hP.ok hC
   obtain ⟨sl',R',B',r0,r1,e0,hD⟩:=do_any hO d K a0 a1 a2 a3 a4 a5 a6 a7 s g ts tg kd n hxr.1 hxr.2
   obtain ⟨w3,hw3,hb3,hk3,hs3⟩:=box1 wr (.cells #[.int .i64 d,.int .i64 K,.int .i64 a0,.int .i64 a1,.int .i64 a2,.int .i64 a3,.int .i64 a4,.int .i64 a5,.int .i64 a6,.int .i64 a7,.int .i64 s,.int .i64 g,.int .i64 ts,.int .i64 tg,.int .i64 kd,.int .i64 n] 52)
   have hP3:=Sep.fresh (own_V _ _ _ _ _ _) (own_Q _ _ _ _) hP hb3 wr.heap.size (Nat.le_refl _) (by omega)
   have hB3:=hB.trans (pvq_below hP hb3).2.1
   have H7:=Lib.hid (pv_do hP3 hD)
   have hC':=hD.c
   obtain ⟨c0,c1,c2,c3,c4,c5,c6,c7,c8,c9,c10,c11,c12,c13,c14,c15,cl⟩:=cells16 hk3
   obtain ⟨HQ,HB3,Hk3,Hw3,HD,Hs3,HC',Hlt⟩:=hid8 hq hB3 hk3 hw3 hD hs3 hC' hlt
   clear hq hB3 hk3 hw3 hD hs3 hC' hlt
   clear hc hP hB hP3 hb3 hxr hO
   go_wp2_with (first | (refine wpList_load_flat rfl 52 (.tmp 20) rfl _ rfl (opC (d,(K,a0,a1,a2,a3,a4,a5,a6,a7),(s,g),(ts,tg),kd,n)) _ Tryz.underlying52 rfl (sz_Op _) HQ.out ?_) | (refine wpList_store_new rfl 52 (.tmp 8) (.tmp 21) rfl wr (ints [0,0,0,0,0,0,0,0,0,0,0,0,0,0,0,0]) (opC (d,(K,a0,a1,a2,a3,a4,a5,a6,a7),(s,g),(ts,tg),kd,n)) 52 rfl rfl rfl (sz_Op _) (opC_one _) ?_;rw [show (opC (d,(K,a0,a1,a2,a3,a4,a5,a6,a7),(s,g),(ts,tg),kd,n)).toArray = #[.int .i64 d,.int .i64 K,.int .i64 a0,.int .i64 a1,.int .i64 a2,.int .i64 a3,.int .i64 a4,.int .i64 a5,.int .i64 a6,.int .i64 a7,.int .i64 s,.int .i64 g,.int .i64 ts,.int .i64 tg,.int .i64 kd,.int .i64 n] from rfl,Hw3.out]) | fail)
   clear c0 c1 c2 c3 c4 c5 c6 c7 c8 c9 c10 c11 c12 c13 c14 c15 cl
   refine H7.out.mono ?_
   rintro e w4 ⟨rfl,h4,hb4,hk4⟩
   have hk5:=hk4 _ (by simp) _ Hk3.out
   have H8:=Lib.hid (pq_do h4 HD.out)
   have hB5:=HB3.out.trans hb4
   obtain ⟨c0,c1,c2,c3,c4,c5,c6,c7,c8,c9,c10,c11,c12,c13,c14,c15,cl⟩:=cells16 hk5
   have HB5:=Lib.hid hB5
   clear hB5
   clear h4 hb4 hk4 hk5
   go_wp2_with fail
   clear c0 c1 c2 c3 c4 c5 c6 c7 c8 c9 c10 c11 c12 c13 c14 c15 cl
   refine H8.out.mono ?_
   rintro e w6 ⟨rfl,h6,hb6,hk6⟩
   have hP7:=Sep.drop (Y:=[]) h6 (by simp)
   have hB7:=HB5.out.trans hb6
   obtain ⟨HP7,HB7⟩:=hid2 hP7 hB7
   clear hP7 hB7
   clear h6 hb6 hk6
   have hlt:=Hlt.out
   go_wp2
   go_roundw
   case rel => exact ⟨k + 1,sl',R',B',by omega,by go_num,HP7.out,HC'.out,HB7.out⟩
   case measure => simp [Go.RowKit.intOf];omega
  ·obtain rfl : k = l.length:=by omega
   have hO:=hP.ok hC
   have hPX:=hP.x
   have H2:=Lib.hid (px_serial hPX hO.w A2 c2 ys HLy.out (HA2.out.below hB) HN.out)
   obtain ⟨HB,HO⟩:=hid2 hB hO
   clear hB hO
   clear hP hC hPX hlt
   go_wp2_with fail
   refine H2.out.mono ?_
   rintro e w3 ⟨rfl,h3,hb3,-⟩
   have hB3:=HB.out.trans hb3
   have H3:=Lib.hid (px_qserial h3 HO.out.w A2 c2 ys HLy.out (HA2.out.below hB3) HN.out)
   have HB3:=Lib.hid hB3
   clear hB3
   clear h3 hb3
   go_wp2_with fail
   refine H3.out.mono ?_
   rintro e w4 ⟨rfl,h4,hb4,-⟩
   have hB4:=HB3.out.trans hb4
   have hO4:=serO_ok HO.out ys
   generalize serO ys R = M at *
   generalize planE ys = pe at *
   have H9:=Lib.hid (px_state h4 hO4)
   obtain ⟨HB4,HP4,HO4⟩:=hid3 hB4 h4 hO4
   clear hB4 h4 hO4
   clear hb4
   go_wp2_with fail
   refine H9.out.mono ?_
   rintro e w8 ⟨v1,v2,v3,rfl,g1,g2,g3,hb8⟩
   have h8:=pxq_below HP4.out hb8
   have hB8:=HB4.out.trans h8.2.1
   have hP8:=h8.1
   have H10:=Lib.hid (px_qstate hP8 HO4.out)
   obtain ⟨HB8,HP8,G1,G2,G3⟩:=hid5 hB8 hP8 g1 g2 g3
   clear hB8 hP8 g1 g2 g3
   clear h8 hb8
   go_wp2_with fail
   refine H10.out.mono ?_
   rintro e w9 ⟨u1,u2,u3,rfl,k1,k2,k3,hb9⟩
   have h9:=pxq_below HP8.out hb9
   have hB9:=HB8.out.trans h9.2.1
   have hP9:=h9.1
   have H11:=Lib.hid (same_any HO4.out (row_mod G1.out (Mod.ofBelow hb9) (by simp)) (row_mod G2.out (Mod.ofBelow hb9) (by simp)) (row_mod G3.out (Mod.ofBelow hb9) (by simp)) k1 k2 k3)
   obtain ⟨HB9,HP9⟩:=hid2 hB9 hP9
   clear hB9 hP9
   clear h9 hb9 k1 k2 k3
   go_wp2_with fail
   refine H11.out.mono ?_
   rintro e w10 ⟨rfl,hb10⟩
   have h10:=pxq_below HP9.out hb10
   have hB10:=HB9.out.trans h10.2.1
   have hP10:=h10.1
   obtain ⟨HB10,HP10⟩:=hid2 hB10 hP10
   clear hB10 hP10
   clear h10 hb10
   go_wp2_with (first | (at_make;go_loud (refine make_sys (by rfl) _ _ rfl rfl rfl ?_;intro w11 hb11)) | fail)
   have h11:=pxq_below HP10.out hb11
   have hB11:=HB10.out.trans h11.2.1
   have H12:=Lib.hid (Sep.callL (own_X _ _ _ _) (own_Q _ _ _ _) h11.1 fun F hF => serial_many hF (some ⟨w10.heap.size,0,none⟩) 21)
   have HB11:=Lib.hid hB11
   clear hB11
   clear h11 hb11
   go_wp2_with fail
   refine H12.out.mono ?_
   rintro e w12 ⟨rfl,-,hb12,-⟩
   have hB12:=HB11.out.trans hb12
   have HB12:=Lib.hid hB12
   clear hB12
   clear hb12
   go_wp2
   go_ret
   exact ⟨rfl,HB12.out⟩
set_option maxRecDepth 100000 in
theorem runSerials_law {H : Type} {enc : TypeId × Value → H} (W : World) (base : Nat) (args : Array Value) (ds : List (DataW H)) (ps : List MemPlace)
  (hval : ∀ (j : Nat) t v,Tryz.f6.params[j]? = some t → args[j]? = some v → Value.okWide Tryz.prog W .any base t v)
  (hA : DataW.TrodAll enc Tryz.prog W 0 (fun _ => true) true Tryz.f6.params.toList args.toList ds ps) (hlt : ∀ p ∈ ps,p.block < W.heap.size)
  (hsz : ∀ (j : Nat) t d,Tryz.f6.params.toList[j]? = some t → ds[j]? = some d → ∀ m ∈ d.weights Tryz.prog t,m ≤ reachBytes) :
  Calls Tryz.prog 6 args W fun e W' => e = .returned (.bool true) ∧ Below W.heap.size W W':=by
 rw [Tryz.params6] at hA hval hsz
 obtain ⟨v0,v1,d0,d1,p0,p1,rfl,rfl,rfl,h0,h1⟩:=trodAll_two hA
 obtain ⟨A,n,c,zs,rfl,hnc,hc,hlen,hin,hL⟩:=open_slice_flat Tryz.underlying37 intCells_Op (k:=16) (by kernel_rfl) (by omega) (hval 0 37 v0 rfl rfl) h0 (fun p hp => hlt p (by simp [hp]))
 obtain ⟨la,hl,rfl⟩:=unflat opI 16 opI_mk n zs hlen
 have hs0:=slice_size Tryz.underlying37 h0 (hsz 0 37 d0 rfl rfl)
 rw [show Tryz.prog.bytesOf 52 = 128 by kernel_rfl,reach_val] at hs0
 rw [show ints (la.flatMap opI) = la.flatMap opC by unfold ints opC;rw [List.map_flatMap];rfl] at hL
 obtain ⟨A',n',c',zs',rfl,hnc',hc',hlen',hin',hL'⟩:=open_slice_flat Tryz.underlying72 intCells_System (k:=7) (by kernel_rfl) (by decide) (hval 1 72 v1 rfl rfl) h1 (fun p hp => hlt p (by simp [hp]))
 obtain ⟨ys,hl',rfl⟩:=unflat Sy.cells 7 Sy.mk_cells n' zs' hlen'
 subst hl hl'
 have hR : ∀ x ∈ la,HdR x.2.2.1 ∧ HdR x.2.2.2.1:=fun x hx => by
  have hz : ∀ z ∈ opI x,InR z:=fun z hz => hin z (List.mem_flatMap.2 ⟨x,hx,hz⟩)
  obtain ⟨d,⟨K,a0,a1,a2,a3,a4,a5,a6,a7⟩,⟨s,g⟩,⟨ts,tg⟩,kd,n⟩:=x
  exact ⟨⟨hz s (by simp [opI,btI,hdI]),hz g (by simp [opI,btI,hdI])⟩,⟨hz ts (by simp [opI,btI,hdI]),hz tg (by simp [opI,btI,hdI])⟩⟩
 have hn : ∀ s ∈ ys,InR s.n:=fun s hs => hin' s.n (List.mem_flatMap.2 ⟨s,hs,by unfold Sy.cells;simp⟩)
 exact runSerials_ok A c la A' c' ys W hs0 (by omega) hL hR hL' hn
set_option maxRecDepth 100000 in
theorem runSerials_lifted (os : Os) (started : os.Started) (H : Type) (enc : TypeId × Value → H) :
  ReturnsInHanded {} Tryz.checked os 6 .any (Rows.runSerialsSpec.pre6 enc Tryz.prog Tryz.f6 Rows.runSerialsRow.domain false) (Rows.runSerialsSpec.post enc Tryz.prog Tryz.f6 false true false false):=by
 refine law_lifted_sized (C:=Tryz.checked) (tb:=4) started own_ laid_ (by kernel_rfl) Tryz.func6 ?_ rfl rfl (by kernel_rfl) (fun ds h => ?_)
  (ChangeSpec.witness6 (enc:=enc) (C:=Tryz.checked) false ⟨#[],#[.slice none 0 0,.slice none 0 0],[]⟩ 8 (by kernel_rfl) (by kernel_rfl) (by kernel_rfl) (by kernel_rfl)) ?_
 ·intro t ht
  have : t = 37 ∨ t = 72:=by simpa [Tryz.params6] using ht
  rcases this with rfl | rfl
  all_goals exact ⟨by kernel_rfl,of_decide_eq_true (by kernel_rfl)⟩
 ·match ds,h with
  | [d0,d1],_ => rfl
 ·intro W base args ds ps hval hA hlt hsz
  exact runSerials_law W base args ds ps hval hA hlt hsz
set_option maxHeartbeats 4000000 in
theorem runSerials_closed : joinedFacts Tryz.prog 6 Tryz.f6 Rows.runSerialsSpec Rows.runSerialsRow = true:=by
 unfold joinedFacts
 repeat' (with_reducible refine and_intro ?_ ?_)
 ·as_aux_lemma => kernel_rfl
 ·exact laid_
 ·exact mapsRowed_
 ·as_aux_lemma => kernel_rfl
 ·as_aux_lemma => kernel_rfl
 ·as_aux_lemma => kernel_rfl
 ·exact stops_
 ·as_aux_lemma => kernel_rfl
 ·exact stopKnobs_
 ·as_aux_lemma => kernel_rfl
 ·as_aux_lemma => kernel_rfl
 ·as_aux_lemma => kernel_rfl
 ·as_aux_lemma => kernel_rfl
 ·as_aux_lemma => kernel_rfl
 ·as_aux_lemma => kernel_rfl
 ·as_aux_lemma => kernel_rfl
 ·as_aux_lemma => kernel_rfl
 ·as_aux_lemma => kernel_rfl
 ·as_aux_lemma => kernel_rfl
 ·as_aux_lemma => kernel_rfl
 ·as_aux_lemma => kernel_rfl
 ·as_aux_lemma => kernel_rfl
 ·exact plainKeys_
 ·as_aux_lemma => kernel_rfl
 ·exact stopsHeard_
 ·exact mayEnter_
 ·exact liftsFinal_
 ·exact make_
 ·as_aux_lemma => kernel_rfl
 ·as_aux_lemma => kernel_rfl
 ·as_aux_lemma => kernel_rfl
 ·as_aux_lemma => kernel_rfl
theorem runSerials_holds : Rows.RunSerialsSaid :=
 OpenClaim.holds_of_wide 6 Tryz.f6 rfl rfl rfl rfl rfl rfl rfl ⟨rfl,rfl,rfl,rfl,rfl⟩ rfl rfl rfl rfl rfl (by as_aux_lemma => kernel_rfl) Tryz.func6 runSerials_closed
  (of_decide_eq_true (by as_aux_lemma => kernel_rfl)) (by unfold Func.isWrapper;first | (rw [if_pos (by decide +kernel)];kernel_rfl) | (rw [if_neg (by decide +kernel)];exact ⟨rfl,rfl⟩))
  (fun os started H enc _ => runSerials_lifted os started H enc)
#print axioms runSerials_holds
end Go.Proofs.YtehjfmjibiafdaaGreat
