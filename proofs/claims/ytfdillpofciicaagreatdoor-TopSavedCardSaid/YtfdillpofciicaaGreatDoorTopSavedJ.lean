import Derived.Test.YtfdillpofciicaaGreatDoorTopSavedJ40
import Derived.Lib.SmallJoins
set_option linter.unusedVariables false
set_option linter.unusedSimpArgs false
/- A part of the proof that TopSaved returns true. -/
namespace Go.Proofs.YtfdillpofciicaaGreatDoor
open Go Go.RowKit Go.ChangeShapes Go.WideShapes Go.ChangeAt
attribute [local go_sem] AllFrom.cons_eq AllFrom.nil_eq putF_nil putF_cons wantedL_none wantedL_some OpGoalT OpGoalV OpGoalQ OpGoalA OpGoalK YieldsR preF_nil preF_cons ByteArray.mk_append_mk
theorem saved_print {sl : Sl} {L : List Rw} {B : List Bd} (hO : ZOk sl L B) (hq : ∀ b ∈ B,b.2 ∈ allS sl) : printE (gensS sl) L B = 0:=by
 obtain ⟨h1,h2,h3,h4⟩:=load_self hO hq
 unfold printE
 rw [if_pos h1,if_pos ⟨h3,h4⟩]
theorem saved_parse {sl : Sl} {L : List Rw} {B : List Bd} (hO : ZOk sl L B) (hq : ∀ b ∈ B,b.2 ∈ allS sl) (hl : ¬ 6000 < (printS (gensS sl) L B).length) : parseE (printS (gensS sl) L B) = 0 ∧ parseZ (printS (gensS sl) L B) = (gensS sl,L,B):=by
 have hp:=saved_print hO hq
 have hx : parseX (printS (gensS sl) L B) = (gensS sl,L,B):=by unfold printS;rw [if_pos hp];exact parse_print (tok_of hp)
 have hS : printX (gensS sl) L B = printS (gensS sl) L B:=by unfold printS;rw [if_pos hp]
 have he : parseE (printS (gensS sl) L B) = 0:=by unfold parseE;rw [if_neg hl,hx];exact if_pos ⟨hp,hS⟩
 exact ⟨he,by unfold parseZ;rw [if_pos he,hx]⟩
theorem serO_ok {sl : Sl} {L : List Rw} {B : List Bd} (hO : ZOk sl L B) (ys : List Sy) : ZOk sl (serO ys L) B:=by
 unfold serO
 split
 ·next hp => exact ⟨serL_ok (planE_all hp).2 hO.w,hO.f,hO.c⟩
 ·exact hO
abbrev PXX (Lo : Nat) (Z : List Nat) (z y : Nat) (sl : Sl) (L : List Rw) (B : List Bd) (w : World) : Prop:=Sep Lo Z (RepX z sl L B) (RepX y sl L B) w
section
variable {Lo : Nat} {Z : List Nat} {z y : Nat} {sl sl' : Sl} {L L' : List Rw} {B B' : List Bd} {w : World} {F G : List Nat}
theorem sep_serL (h : SepA Lo Z (RepX z sl L B) (RepX y sl' L' B') w F G) (hO : WOk sl L) (A : Option Addr) (c : Nat) (l : List Sy) (hl : l.length ≤ 9223372036854775807) (hA : Lies w Lo A (sysCells l)) (hn : ∀ s ∈ l,InR s.n) :
  Calls Tryz.prog 16 #[.pointer (some ⟨z,0,none⟩),.slice A l.length c] w (fun x w' => x = .returned (.int .i64 (planE l)) ∧ Sep Lo Z (RepX z sl (serO l L) B) (RepX y sl' L' B') w' ∧ Below Lo w w' ∧ KeepZ Z w w') :=
 (serial_any h.a hO (fun y hy => (h.af y hy).1) h.lo A c l hl hA hn).mono fun _ _ ⟨he,hp⟩ => ⟨he,h.left (own_X _ _ _ _) (own_X _ _ _ _) hp⟩
theorem sep_serR (h : SepA Lo Z (RepX z sl L B) (RepX y sl' L' B') w F G) (hO : WOk sl' L') (A : Option Addr) (c : Nat) (l : List Sy) (hl : l.length ≤ 9223372036854775807) (hA : Lies w Lo A (sysCells l)) (hn : ∀ s ∈ l,InR s.n) :
  Calls Tryz.prog 16 #[.pointer (some ⟨y,0,none⟩),.slice A l.length c] w (fun x w' => x = .returned (.int .i64 (planE l)) ∧ Sep Lo Z (RepX z sl L B) (RepX y sl' (serO l L') B') w' ∧ Below Lo w w' ∧ KeepZ Z w w') :=
 (serial_any h.b hO (fun y hy => (h.bf y hy).1) h.lo A c l hl hA hn).mono fun _ _ ⟨he,hp⟩ => ⟨he,h.right (own_X _ _ _ _) (own_X _ _ _ _) hp⟩
end
theorem bd_inR {sl : Sl} {L : List Rw} {B : List Bd} (hO : ZOk sl L B) (hq : ∀ b ∈ B,b.2 ∈ allS sl) : ∀ b ∈ B,HdR b.1 ∧ HdR b.2:=fun b hb => ⟨allS_hdR hO.w (hO.c b hb),allS_hdR hO.w (hq b hb)⟩
theorem gens_inR {sl : Sl} (h : SlOk sl) : ∀ n ∈ gensS sl,InR n:=by
 intro n hn
 unfold gensS at hn
 obtain ⟨x,hx,rfl⟩:=List.mem_map.1 hn
 have:=h.2 x hx
 exact inR_small this.1 this.2.1
set_option maxRecDepth 100000 in
set_option maxHeartbeats 8000000 in
theorem topSaved_ok (A1 : Option Addr) (c1 : Nat) (l1 : List Ov) (A2 : Option Addr) (c2 : Nat) (l2 : List Ov) (A3 : Option Addr) (c3 : Nat) (ys : List Sy) (w : World) (hLv : LaidV w) (hl1 : l1.length * 128 ≤ 140737488351232) (hl2 : l2.length * 128 ≤ 140737488351232) (hl3 : ys.length ≤ 9223372036854775807)
  (hA1 : Lies w w.heap.size A1 (l1.flatMap opC)) (hA2 : Lies w w.heap.size A2 (l2.flatMap opC)) (hA3 : Lies w w.heap.size A3 (sysCells ys)) (hR1 : ∀ x ∈ l1,HdR x.2.2.1 ∧ HdR x.2.2.2.1) (hR2 : ∀ x ∈ l2,HdR x.2.2.1 ∧ HdR x.2.2.2.1) (hn : ∀ s ∈ ys,InR s.n) :
  Calls Tryz.prog 5 #[.slice A1 l1.length c1,.slice A2 l2.length c2,.slice A3 ys.length c3] w fun e w' => e = .returned (.bool true) ∧ Below w.heap.size w w':=by
 have H1:=Lib.hid (works_any w)
 have hb2 : l2.length ≤ 9223372036854775807:=by omega
 have hb1 : l1.length ≤ 9223372036854775807:=by omega
 obtain ⟨HA1,HA2,HA3,HR1,HR2,HL1,Hn,HL3,HLv⟩:=hid9 hA1 hA2 hA3 hR1 hR2 hb1 hn hl3 hLv
 clear hA1 hA2 hA3 hR1 hR2 hb1 hn hl3 hLv
 clear hl1
 go_enter Tryz.func5,Tryz.ntmps5
 go_wp2_with fail
 refine H1.out.mono ?_
 rintro e w1 ⟨rfl,hw⟩
 have H2:=Lib.hid (done_any A1 c1 l1 w1 HL1.out ((HA1.out.below hw).mono hw.size) HR1.out)
 have HB1:=Lib.hid hw
 clear hw
 clear H1
 go_wp2_with fail
 refine H2.out.mono ?_
 rintro e w2 ⟨z,F,sl,R,B,rfl,hX,hF,hb,hO,hq⟩
 have hB2:=HB1.out.trans (hb.mono HB1.out.size)
 have hge : ∀ y ∈ F,w.heap.size ≤ y:=fun y hy => Nat.le_trans HB1.out.size (hF y hy)
 have H3:=Lib.hid (vx_state hX hO.len)
 obtain ⟨HX,HO,Hq,HB2,Hge⟩:=hid5 hX hO hq hB2 hge
 clear hX hO hq hB2 hge
 clear hF hb H2
 go_wp2_with fail
 refine H3.out.mono ?_
 rintro e w3 ⟨v1,v2,v3,rfl,g1,g2,g3,hb3⟩
 obtain ⟨A7,k7,rfl,hk7,gL1⟩:=row_lies g1
 obtain ⟨A8,k8,rfl,hk8,gL2⟩:=row_lies g2
 obtain ⟨A9,k9,rfl,hk9,gL3⟩:=row_lies g3
 have hX3:=(own_X _ _ _ _).mod HX.out (Mod.ofBelow hb3) (by simp)
 have hB3:=HB2.out.trans (hb3.mono HB2.out.size)
 have hgl : (gensS sl).length ≤ 60:=by unfold gensS;rw [List.length_map];exact HO.out.w.ok.1
 have hrl:=HO.out.w.len
 have hbl:=HO.out.len
 have H4:=Lib.hid (print_any (c1:=k7) (c2:=k8) (c3:=k9) (HLv.out.below hB3) (by omega) (by omega) (by omega) gL1 gL2 gL3 (gens_inR HO.out.w.ok) (bd_inR HO.out Hq.out))
 rw [saved_print HO.out Hq.out] at H4
 have hsv:=saved_parse HO.out Hq.out
 have hself:=load_self HO.out Hq.out
 generalize hps : printS (gensS sl) R B = t at *
 unfold str at H4
 obtain ⟨HX3,HB3,Hsv,Hself,Hps,Hgl,Hrl,Hbl,Hk7,Hk8,Hk9⟩:=hid11 hX3 hB3 hsv hself hps hgl hrl hbl hk7 hk8 hk9
 clear hX3 hB3 hsv hself hps hgl hrl hbl hk7 hk8 hk9
 clear g1 g2 g3 gL1 gL2 gL3 hb3 H3
 go_wp2_with fail
 refine H4.out.mono ?_
 rintro e w4 ⟨rfl,hb4⟩
 have hX4:=(own_X _ _ _ _).mod HX3.out (Mod.ofBelow hb4) (by simp)
 have hB4:=HB3.out.trans (hb4.mono HB3.out.size)
 clear H4
 by_cases hlen : 6000 < t.length
 ·have hli : (6000 : Int) < (t.length : Int):=by omega
  obtain ⟨HX4,HB4,Hb4⟩:=hid3 hX4 hB4 hb4
  clear hX4 hB4 hb4
  go_wp2
  go_ret
  exact ⟨rfl,HB4.out⟩
 have hli : ¬ (6000 : Int) < (t.length : Int):=by omega
 have H5:=Lib.hid (parsep_any (t:=t) (HLv.out.below hB4) (by omega))
 rw [(Hsv.out hlen).1,(Hsv.out hlen).2] at H5
 unfold ParsedPost str at H5
 obtain ⟨HX4,HB4,Hb4,HLen⟩:=hid4 hX4 hB4 hb4 hlen
 clear hX4 hB4 hb4 hlen
 go_wp2_with fail
 refine H5.out.mono ?_
 rintro e w5 ⟨A4,c4,A5,c5,A6,c6,rfl,hL4,hL5,hL6,hb5⟩
 obtain ⟨w6,hw6,hb6,hz6,hs6⟩:=box1 w5 (.cells #[.slice A4 (gensS sl).length c4,.slice A5 R.length c5,.slice A6 B.length c6] 26)
 have hb56:=hb5.trans (hb6.mono hb5.size)
 have hX6:=(own_X _ _ _ _).mod HX4.out (Mod.ofBelow hb56) (by simp)
 have hB6:=HB4.out.trans (hb56.mono HB4.out.size)
 have H6:=Lib.hid (zload_any (c1:=c4) (c2:=c5) (c3:=c6) (by have:=Hgl.out;omega) (by have:=Hrl.out;omega) (by have:=Hbl.out;omega) ((hL4.below hb6).mono hb6.size) ((hL5.below hb6).mono hb6.size) ((hL6.below hb6).mono hb6.size) (bd_inR HO.out Hq.out))
 unfold ZLdPost at H6
 rw [Hself.out.1,Hself.out.2.1,Hself.out.2.2.1,Hself.out.2.2.2] at H6
 obtain ⟨o0,o1,o2,ol⟩:=cells3 hz6
 obtain ⟨HX6,HB6,HL4,HL5,HL6,Hb5,Hb6,Hb56,Hz6,Hs6⟩:=hid10 hX6 hB6 hL4 hL5 hL6 hb5 hb6 hb56 hz6 hs6
 clear hX6 hB6 hL4 hL5 hL6 hb5 hb6 hb56 hz6 hs6
 clear H5
 go_wp2_with fail
 clear hw6
 refine H6.out.mono ?_
 rintro e w7 ⟨hb7,⟨h,-⟩ | ⟨-,y,p,f,G,rfl,hV7,hG,-⟩⟩
 ·exact absurd rfl h
 have hX7:=(own_X _ _ _ _).mod HX6.out (Mod.ofBelow hb7) (by simp)
 have hB7:=HB6.out.trans (hb7.mono HB6.out.size)
 have hY7 : RepX y sl R B w7 G:=⟨p,f,hV7⟩
 have hS7 : PXX w.heap.size [] z y sl R B w7:=⟨F,G,hX7,hY7,fun k hk e => by have:=HX6.out;have h1:=(own_X _ _ _ _).lt HX6.out k hk;have h2:=hG k e;omega,fun k hk => ⟨Hge.out k hk,by simp⟩,fun k hk => ⟨Nat.le_trans HB6.out.size (hG k hk),by simp⟩,hB7.size,by simp⟩
 obtain ⟨HS7,HB7⟩:=hid2 hS7 hB7
 clear hS7 hB7
 clear hb7 hV7 hG hX7 hY7 H6 o0 o1 o2 ol
 go_wp2_with fail
 go_loopw [63] (fun i wr => ∃ (k : Nat) (sl : Sl) (R : List Rw) (B : List Bd),k ≤ l2.length ∧ i = .int .i64 k ∧ PXX w.heap.size [] z y sl R B wr ∧ Below w.heap.size w wr ∧ ZOk sl R B ∧ (∀ b ∈ B,b.2 ∈ allS sl)) (fun i _ => l2.length - (Go.RowKit.intOf i).toNat)
 case atStart => exact ⟨0,sl,R,B,by omega,rfl,HS7.out,HB7.out,HO.out,Hq.out⟩
 case round =>
  clear HX HO Hq HB2 Hge HX3 HB3 Hsv Hself Hps Hgl Hrl Hbl Hk7 Hk8 Hk9 HX4 HB4 Hb4 HX6 HB6 HL4 HL5 HL6 Hb5 Hb6 Hb56 Hz6 Hs6 HS7 HB7
  obtain ⟨k,sl,R,B,hk,rfl,hS,hBr,hO,hq⟩:=hrel
  by_cases hlt : k < l2.length
  ·obtain ⟨ab,ao,rfl,hal,hc⟩:=HA2.out.rec_at opC_len (by omega) hlt
   have hqq : ∀ j u,(opC l2[k])[j]? = some u → wr.cell? ((⟨ab,ao + k * 16,none⟩ : Addr).add j) = some u:=fun j u hu => (hBr.cell (p:=(⟨ab,ao + k * 16,none⟩ : Addr).add j) (by rw [add_block];exact hal)).trans (by first | exact hc j u hu | (have:=hc j u hu;rw [Addr.add_mid];exact this))
   have hxr:=HR2.out _ (List.getElem_mem hlt)
   have hki : (k : Int) < (l2.length : Int):=by omega
   generalize l2[k] = x at *
   obtain ⟨d,⟨K,a0,a1,a2,a3,a4,a5,a6,a7⟩,⟨s,g⟩,⟨ts,tg⟩,kd,n⟩:=x
   obtain ⟨sl',R',B',h1,e0,hD⟩:=doO_any hO (d,(K,a0,a1,a2,a3,a4,a5,a6,a7),(s,g),(ts,tg),kd,n) hxr.1 hxr.2
   obtain ⟨r0,r1⟩:=h1
   obtain ⟨w3,hw3,hb3,hk3,hs3⟩:=box1 wr (.cells #[.int .i64 d,.int .i64 K,.int .i64 a0,.int .i64 a1,.int .i64 a2,.int .i64 a3,.int .i64 a4,.int .i64 a5,.int .i64 a6,.int .i64 a7,.int .i64 s,.int .i64 g,.int .i64 ts,.int .i64 tg,.int .i64 kd,.int .i64 n] 49)
   have hS3 : PXX w.heap.size [wr.heap.size] z y sl R B w3:=hS.fresh (own_X _ _ _ _) (own_X _ _ _ _) hb3 wr.heap.size (Nat.le_refl _) (by omega)
   have hB3:=hBr.trans (hb3.mono hBr.size)
   have H7:=Lib.hid (Sep.callL (own_X z sl' R' B') (own_X y sl R B) hS3 (fun F h => vx_do h hD))
   have hO':=hD.at_.ok hO
   have hq':=hD.at_.par hq
   obtain ⟨c0,c1,c2,c3,c4,c5,c6,c7,c8,c9,c10,c11,c12,c13,c14,c15,cl⟩:=cells16 hk3
   obtain ⟨HQ,Hw3,Hs3,HS3,HO',Hq',Hk3,Hb3,HB3,HD⟩:=hid10 hqq hw3 hs3 hS3 hO' hq' hk3 hb3 hB3 hD
   clear hqq hw3 hs3 hS3 hO' hq' hk3 hb3 hB3 hD
   have Hlt:=Lib.hid hlt
   clear hc hS hxr hO hq hal hBr hlt
   go_wp2_with (first | (refine wpList_load_flat rfl 49 (.tmp 65) rfl _ rfl (opC (d,(K,a0,a1,a2,a3,a4,a5,a6,a7),(s,g),(ts,tg),kd,n)) _ Tryz.underlying49 rfl (sz_Op _) HQ.out ?_) | (refine wpList_store_new rfl 49 (.tmp 15) (.tmp 66) rfl wr (ints [0,0,0,0,0,0,0,0,0,0,0,0,0,0,0,0]) (opC (d,(K,a0,a1,a2,a3,a4,a5,a6,a7),(s,g),(ts,tg),kd,n)) 49 rfl rfl rfl (sz_Op _) (opC_one _) ?_;rw [show (opC (d,(K,a0,a1,a2,a3,a4,a5,a6,a7),(s,g),(ts,tg),kd,n)).toArray = #[.int .i64 d,.int .i64 K,.int .i64 a0,.int .i64 a1,.int .i64 a2,.int .i64 a3,.int .i64 a4,.int .i64 a5,.int .i64 a6,.int .i64 a7,.int .i64 s,.int .i64 g,.int .i64 ts,.int .i64 tg,.int .i64 kd,.int .i64 n] from rfl,Hw3.out]) | fail)
   clear c0 c1 c2 c3 c4 c5 c6 c7 c8 c9 c10 c11 c12 c13 c14 c15 cl
   refine H7.out.mono ?_
   rintro e w4 ⟨rfl,hS4,hB34,hz4⟩
   have hk4:=hz4 _ (by simp) _ Hk3.out
   have hB4:=HB3.out.trans hB34
   obtain ⟨w5,hw5,hb5,hk5,hs5⟩:=box1 w4 (.cells #[.int .i64 r0,.int .i64 r1] 47)
   have hS5 : Sep w.heap.size [w4.heap.size,wr.heap.size] (RepX z sl' R' B') (RepX y sl R B) w5:=hS4.fresh (own_X _ _ _ _) (own_X _ _ _ _) hb5 w4.heap.size (Nat.le_refl _) (by omega)
   have hk45:=(Mod.ofBelow hb5).keep hk4 (by simp)
   have hB5:=hB4.trans (hb5.mono hB4.size)
   have H8:=Lib.hid (Sep.callR (own_X z sl' R' B') (own_X y sl' R' B') hS5 (fun F h => vx_do h HD.out))
   obtain ⟨c0,c1,c2,c3,c4,c5,c6,c7,c8,c9,c10,c11,c12,c13,c14,c15,cl⟩:=cells16 hk45
   obtain ⟨HS4,HB34,Hz4,Hk4,HB4,Hb5,Hk5,Hs5,HS5,Hk45,HB5⟩:=hid11 hS4 hB34 hz4 hk4 hB4 hb5 hk5 hs5 hS5 hk45 hB5
   clear hS4 hB34 hz4 hk4 hB4 hb5 hk5 hs5 hS5 hk45 hB5
   clear H7
   go_wp2_with fail
   clear hw5 c0 c1 c2 c3 c4 c5 c6 c7 c8 c9 c10 c11 c12 c13 c14 c15 cl
   refine H8.out.mono ?_
   rintro e w6 ⟨rfl,hS6,hB56,hz6⟩
   have hk6:=hz6 _ (by simp) _ Hk5.out
   have hB6:=HB5.out.trans hB56
   obtain ⟨w7,hw7,hb7,hk7,hs7⟩:=box1 w6 (.cells #[.int .i64 r0,.int .i64 r1] 47)
   have hk67:=(Mod.ofBelow hb7).keep hk6 (by simp)
   have hS7 : PXX w.heap.size [] z y sl' R' B' w7:=(hS6.below (own_X _ _ _ _) (own_X _ _ _ _) hb7).1.drop (by simp)
   have hB7:=hB6.trans (hb7.mono hB6.size)
   have hcmp : ∀ w,(binOp .neq 47 (.agg #[.int .i64 r0,.int .i64 r1]) (.agg #[.int .i64 r0,.int .i64 r1])).run Tryz.prog w = .ok (.bool false) w:=fun w => by rw [neqHandle,eqB_self];rfl
   obtain ⟨c0,c1,cl⟩:=cells2 hk67
   obtain ⟨u0,u1,ul⟩:=cells2 hk7
   obtain ⟨HS6,HB56,Hz6,Hk6,HB6,Hb7,Hk7,Hs7,HS7,Hk67,HB7⟩:=hid11 hS6 hB56 hz6 hk6 hB6 hb7 hk7 hs7 hS7 hk67 hB7
   clear hS6 hB56 hz6 hk6 hB6 hb7 hk7 hs7 hS7 hk67 hB7
   clear H8
   go_wp2
   go_roundw
   case rel => exact ⟨k + 1,sl',R',B',by have:=Hlt.out;omega,by go_num,HS7.out,HB7.out,HO'.out,Hq'.out⟩
   case measure => have:=Hlt.out;simp [Go.RowKit.intOf];omega
  ·obtain ⟨F1,G1,hS1⟩:=hS
   have H7:=Lib.hid (sep_serL hS1 hO.w A3 c3 ys HL3.out (HA3.out.below hBr) Hn.out)
   obtain ⟨HO,Hq,HBr,HS1⟩:=hid4 hO hq hBr hS1
   clear hO hq hBr hS1
   go_wp2_with fail
   refine H7.out.mono ?_
   rintro e w3 ⟨rfl,hS3,hB3',-⟩
   obtain ⟨F2,G2,hS2⟩:=hS3
   have hB3:=HBr.out.trans hB3'
   have H8:=Lib.hid (sep_serR hS2 HO.out.w A3 c3 ys HL3.out (HA3.out.below hB3) Hn.out)
   obtain ⟨HB3,HB3',HS2⟩:=hid3 hB3 hB3' hS2
   clear hB3 hB3' hS2
   clear H7
   go_wp2_with fail
   refine H8.out.mono ?_
   rintro e w4 ⟨rfl,hS4,hB4',-⟩
   obtain ⟨F3,G3,hS3⟩:=hS4
   have hB4:=HB3.out.trans hB4'
   have hO4:=serO_ok HO.out ys
   have H9:=Lib.hid (vx_state hS3.a hO4.len)
   obtain ⟨HB4,HB4',HS3,HO4⟩:=hid4 hB4 hB4' hS3 hO4
   clear hB4 hB4' hS3 hO4
   clear H8
   go_wp2_with fail
   refine H9.out.mono ?_
   rintro e w5 ⟨v1,v2,v3,rfl,g1,g2,g3,hb5⟩
   have hY5:=(own_X _ _ _ _).mod HS3.out.b (Mod.ofBelow hb5) (by simp)
   have hB5:=HB4.out.trans (hb5.mono HB4.out.size)
   have H10:=Lib.hid (vx_state hY5 HO4.out.len)
   obtain ⟨G1,G2,G3,Hb5,HY5,HB5⟩:=hid6 g1 g2 g3 hb5 hY5 hB5
   clear g1 g2 g3 hb5 hY5 hB5
   clear H9
   go_wp2_with fail
   refine H10.out.mono ?_
   rintro e w6 ⟨u1,u2,u3,rfl,k1,k2,k3,hb6⟩
   have hB6:=HB5.out.trans (hb6.mono HB5.out.size)
   have HS:=Lib.hid (same_any HO4.out (row_mod G1.out (Mod.ofBelow hb6) (by simp)) (row_mod G2.out (Mod.ofBelow hb6) (by simp)) (row_mod G3.out (Mod.ofBelow hb6) (by simp)) k1 k2 k3)
   obtain ⟨K1,K2,K3,Hb6,HB6⟩:=hid5 k1 k2 k3 hb6 hB6
   clear k1 k2 k3 hb6 hB6
   clear H10
   go_wp2_with fail
   refine HS.out.mono ?_
   rintro e w7 ⟨rfl,hb7⟩
   have hB7:=HB6.out.trans (hb7.mono HB6.out.size)
   obtain ⟨HB7,Hb7⟩:=hid2 hB7 hb7
   clear hB7 hb7
   clear HS
   go_wp2
   go_ret
   exact ⟨rfl,HB7.out⟩
set_option maxRecDepth 100000 in
theorem topSaved_law {H : Type} {enc : TypeId × Value → H} (W : World) (base : Nat) (args : Array Value) (ds : List (DataW H)) (ps : List MemPlace) (hLv : LaidV W)
  (hval : ∀ (j : Nat) t v,Tryz.f5.params[j]? = some t → args[j]? = some v → Value.okWide Tryz.prog W .any base t v)
  (hA : DataW.TrodAll enc Tryz.prog W 0 (fun _ => true) true Tryz.f5.params.toList args.toList ds ps) (hlt : ∀ p ∈ ps,p.block < W.heap.size)
  (hsz : ∀ (j : Nat) t d,Tryz.f5.params.toList[j]? = some t → ds[j]? = some d → ∀ m ∈ d.weights Tryz.prog t,m ≤ reachBytes) :
  Calls Tryz.prog 5 args W fun e W' => e = .returned (.bool true) ∧ Below W.heap.size W W':=by
 rw [Tryz.params5] at hA hval hsz
 obtain ⟨v0,v1,v2,d0,d1,d2,p0,p1,p2,rfl,rfl,rfl,h0,h1,h2⟩:=trodAll_three hA
 obtain ⟨A,n,c,zs,rfl,hnc,hc,hlen,hin,hL⟩:=open_slice_flat Tryz.underlying35 intCells_Op (k:=16) (by kernel_rfl) (by omega) (hval 0 35 v0 rfl rfl) h0 (fun p hp => hlt p (by simp [hp]))
 obtain ⟨la,hl,rfl⟩:=unflat opI 16 opI_mk n zs hlen
 have hs0:=slice_size Tryz.underlying35 h0 (hsz 0 35 d0 rfl rfl)
 rw [show Tryz.prog.bytesOf 49 = 128 by kernel_rfl,reach_val] at hs0
 rw [show ints (la.flatMap opI) = la.flatMap opC by unfold ints opC;rw [List.map_flatMap];rfl] at hL
 obtain ⟨A',n',c',zs',rfl,hnc',hc',hlen',hin',hL'⟩:=open_slice_flat Tryz.underlying35 intCells_Op (k:=16) (by kernel_rfl) (by omega) (hval 1 35 v1 rfl rfl) h1 (fun p hp => hlt p (by simp [hp]))
 obtain ⟨lb,hl',rfl⟩:=unflat opI 16 opI_mk n' zs' hlen'
 have hs1:=slice_size Tryz.underlying35 h1 (hsz 1 35 d1 rfl rfl)
 rw [show Tryz.prog.bytesOf 49 = 128 by kernel_rfl,reach_val] at hs1
 rw [show ints (lb.flatMap opI) = lb.flatMap opC by unfold ints opC;rw [List.map_flatMap];rfl] at hL'
 obtain ⟨A3,n3,c3,zs3,rfl,hnc3,hc3,hlen3,hin3,hL3⟩:=open_slice_flat Tryz.underlying36 intCells_System (k:=7) (by kernel_rfl) (by decide) (hval 2 36 v2 rfl rfl) h2 (fun p hp => hlt p (by simp [hp]))
 obtain ⟨ys,hl3,rfl⟩:=unflat Sy.cells 7 Sy.mk_cells n3 zs3 hlen3
 subst hl hl' hl3
 have hR : ∀ (l : List Ov),(∀ z ∈ l.flatMap opI,InR z) → ∀ x ∈ l,HdR x.2.2.1 ∧ HdR x.2.2.2.1:=fun l hin x hx => by
  have hz : ∀ z ∈ opI x,InR z:=fun z hz => hin z (List.mem_flatMap.2 ⟨x,hx,hz⟩)
  obtain ⟨d,⟨K,a0,a1,a2,a3,a4,a5,a6,a7⟩,⟨s,g⟩,⟨ts,tg⟩,kd,n⟩:=x
  exact ⟨⟨hz s (by simp [opI,btI,hdI]),hz g (by simp [opI,btI,hdI])⟩,⟨hz ts (by simp [opI,btI,hdI]),hz tg (by simp [opI,btI,hdI])⟩⟩
 have hn : ∀ s ∈ ys,InR s.n:=fun s hs => hin3 s.n (List.mem_flatMap.2 ⟨s,hs,by unfold Sy.cells;simp⟩)
 exact topSaved_ok A c la A' c' lb A3 c3 ys W hLv hs0 hs1 (by omega) hL hL' hL3 (hR la hin) (hR lb hin') hn
theorem topSaved_met (os : Os) (args : Array Value) : laidMetH Tryz.prog Rows.topSavedRow.laid ((World.laidAll Tryz.prog os Rows.topSavedRow.laid).forCall (fun _ _ => 0) ⟨#[],args,[]⟩).memory:=by
 rw [MakeChecks.laidMetH_plain _ _ _ (by kernel_rfl)]
 exact laidMet_laidAll _ (by kernel_rfl) (by kernel_rfl)
set_option maxRecDepth 100000 in
theorem topSaved_lifted (os : Os) (started : os.Started) (H : Type) (enc : TypeId × Value → H) :
  ReturnsInLeavingWide {} Tryz.checked os 5 .any (fun w args => (Rows.topSavedSpec.pre enc Tryz.prog Tryz.f5 [] false w args ∧ laidMetH Tryz.prog Rows.topSavedRow.laid w) ∧ sizedMet enc Tryz.prog Tryz.f5 (OpenSpec.ofChange Rows.topSavedSpec) false w args) (Rows.topSavedSpec.post enc Tryz.prog Tryz.f5 false true false false):=by
 refine ReturnsInHanded.leaving (law_lifted_laid (C:=Tryz.checked) (tb:=4) started own_ laid_ (by kernel_rfl) Tryz.func5 ?_ rfl rfl (by kernel_rfl) (fun ds h => ?_)
  (ChangeSpec.witness_shaped (enc:=enc) (C:=Tryz.checked) (os:=os) (X:=fun w _ => laidMetH Tryz.prog Rows.topSavedRow.laid w) false (World.laidAll Tryz.prog os Rows.topSavedRow.laid) #[.slice none 0 0,.slice none 0 0,.slice none 0 0] 8 (World.laidAll_os _ _ _)
   (World.shaped_of_ZipB (by kernel_rfl) (by kernel_rfl)) (by kernel_rfl) (by kernel_rfl) (by kernel_rfl) (topSaved_met os _)) ?_)
 ·intro t ht
  have : t = 35 ∨ t = 35 ∨ t = 36:=by simpa [Tryz.params5] using ht
  rcases this with rfl | rfl | rfl
  all_goals exact ⟨by kernel_rfl,of_decide_eq_true (by kernel_rfl)⟩
 ·match ds,h with
  | [d0,d1,d2],_ => rfl
 ·intro W base args ds ps hsh hX hval hA hlt hsz
  exact topSaved_law W base args ds ps (laidV_of hsh hX) hval hA hlt hsz
set_option maxHeartbeats 4000000 in
theorem topSaved_closed : joinedFacts Tryz.prog 5 Tryz.f5 Rows.topSavedSpec Rows.topSavedRow = true:=by
 unfold joinedFacts
 repeat' (with_reducible refine and_intro ?_ ?_)
 ·as_aux_lemma => kernel_rfl
 ·exact laid_
 ·exact mapsRowed_
 ·as_aux_lemma => kernel_rfl
 ·as_aux_lemma => kernel_rfl
 ·as_aux_lemma => kernel_rfl
 ·exact stops_
 ·as_aux_lemma => kernel_rfl
 ·exact stopKnobs_
 ·as_aux_lemma => kernel_rfl
 ·as_aux_lemma => kernel_rfl
 ·as_aux_lemma => kernel_rfl
 ·as_aux_lemma => kernel_rfl
 ·as_aux_lemma => kernel_rfl
 ·as_aux_lemma => kernel_rfl
 ·as_aux_lemma => kernel_rfl
 ·as_aux_lemma => kernel_rfl
 ·as_aux_lemma => kernel_rfl
 ·as_aux_lemma => kernel_rfl
 ·as_aux_lemma => kernel_rfl
 ·as_aux_lemma => kernel_rfl
 ·as_aux_lemma => kernel_rfl
 ·exact plainKeys_
 ·as_aux_lemma => kernel_rfl
 ·exact stopsHeard_
 ·exact mayEnter_
 ·exact liftsFinal_
 ·exact make_
 ·as_aux_lemma => kernel_rfl
 ·as_aux_lemma => kernel_rfl
 ·as_aux_lemma => kernel_rfl
 ·as_aux_lemma => kernel_rfl
theorem topSaved_row : Rows.TopSavedSaid :=
 OpenClaim.holds_of_wide_leaving 5 Tryz.f5 rfl rfl rfl rfl rfl rfl rfl ⟨rfl,rfl,rfl,rfl,rfl⟩ rfl rfl rfl rfl rfl (by as_aux_lemma => kernel_rfl) Tryz.func5 topSaved_closed
  (of_decide_eq_true (by as_aux_lemma => kernel_rfl)) (by unfold Func.isWrapper;first | (rw [if_pos (by decide +kernel)];kernel_rfl) | (rw [if_neg (by decide +kernel)];exact ⟨rfl,rfl⟩))
  (fun os started H enc _ => topSaved_lifted os started H enc)
theorem topSaved_holds : Rows.TopSavedCardSaid :=
 holds_tied_goes .later [.data, .data, .data, .data, .sentinel, .sentinel, .pinned] true (true, "1c276c0ccf89fdd18cffb6671677c068dd8a0d32a66beb5d65534d45e6538d3d") true true
  topSaved_row (by kernel_rfl) topSaved_row_tie rfl ⟨rfl,rfl⟩ (by kernel_rfl) rfl
  (fun f fn hf hfn => by
   obtain rfl : f = 5 := Option.some.inj ((show Tryz.prog.funcNamed "vivarium/vivariumtop.TopSaved" = some 5 by kernel_rfl).symm.trans hf) |>.symm
   obtain rfl : fn = Tryz.f5:=(Option.some.inj (Tryz.func5.symm.trans hfn)).symm
   exact ⟨by kernel_rfl,fun j t ht => by
    rw [Tryz.params5] at ht
    have hm : t ∈ [35,35,36]:=by simpa using Array.mem_of_getElem? ht
    have hall : ([35,35,36].all fun u => !Tryz.prog.wantsStandIn u) = true:=by kernel_rfl
    exact (show Tryz.prog.wantsStandIn t = false by simpa using List.all_eq_true.1 hall t hm)⟩)
  (by kernel_rfl)
#print axioms topSaved_holds
end Go.Proofs.YtfdillpofciicaaGreatDoor
