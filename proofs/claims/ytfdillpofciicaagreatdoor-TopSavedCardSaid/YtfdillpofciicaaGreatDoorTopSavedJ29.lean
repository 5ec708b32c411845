import Derived.Test.YtfdillpofciicaaGreatDoorTopSavedJ28
set_option linter.unusedVariables false
set_option linter.unusedSimpArgs false
/- A part of the proof that TopSaved returns true. -/
namespace Go.Proofs.YtfdillpofciicaaGreatDoor
open Go Go.RowKit
attribute [local go_sem] AllFrom.cons_eq AllFrom.nil_eq putF_nil putF_cons wantedL_none wantedL_some OpGoalT OpGoalV OpGoalQ OpGoalA OpGoalK YieldsR preF_nil preF_cons
theorem eqRows_self (l : List Rw) (v v' : Value) (w : World) {B B' : Nat} (hl : l.length ≤ 1200000000000) (h : w.ownsRow B 56 11 v l.length (l.flatMap rwC)) (h' : w.ownsRow B' 56 11 v' l.length (l.flatMap rwC)) :
  Calls Tryz.prog 27 #[v,v'] w fun e w' => e = .returned (.bool true) ∧ Below w.heap.size w w':=by
 obtain ⟨A,c,rfl,hc,hA⟩:=own_lies h
 obtain ⟨A',c',rfl,hc',hA'⟩:=own_lies h'
 have:=eqRow_any A c A' c' l l w (by omega) (by omega) hA hA'
 rw [eqB_self] at this
 exact this
theorem eqBonds_self (l : List Bd) (v v' : Value) (w : World) {B B' : Nat} (hl : l.length ≤ 1200000000000) (h : w.ownsRow B 60 4 v l.length (l.flatMap bdC)) (h' : w.ownsRow B' 60 4 v' l.length (l.flatMap bdC)) :
  Calls Tryz.prog 28 #[v,v'] w fun e w' => e = .returned (.bool true) ∧ Below w.heap.size w w':=by
 obtain ⟨A,c,rfl,hc,hA⟩:=own_lies h
 obtain ⟨A',c',rfl,hc',hA'⟩:=own_lies h'
 have:=eqBond_any A c A' c' l l w (by omega) (by omega) hA hA'
 rw [eqB_self] at this
 exact this
theorem eqInts_self (l : List Int) (v v' : Value) (w : World) {B B' : Nat} (hl : l.length ≤ 1200000000000) (h : w.ownsRow B 3 1 v l.length (ints l)) (h' : w.ownsRow B' 3 1 v' l.length (ints l)) :
  Calls Tryz.prog 41 #[v,v'] w fun e w' => e = .returned (.bool true) ∧ Below w.heap.size w w':=by
 obtain ⟨A,c,rfl,hc,hA⟩:=own_lies h
 obtain ⟨A',c',rfl,hc',hA'⟩:=own_lies h'
 have:=eqInt_any A c A' c' l l w.heap.size w.heap.size w (by omega) (by omega) hA hA'
 rw [eqB_self] at this
 exact this.mono fun e w' ⟨he,hw⟩ => ⟨he,hw ▸ Below.refl _ _⟩
set_option maxRecDepth 20000 in
set_option maxHeartbeats 4000000 in
theorem same_any {sl : Sl} {L : List Rw} {B : List Bd} {X1 X2 X3 X4 X5 X6 : Nat} (hO : ZOk sl L B) {v1 v2 v3 u1 u2 u3 : Value} {w : World} (g1 : w.ownsRow X1 3 1 v1 (gensS sl).length (ints (gensS sl))) (g2 : w.ownsRow X2 56 11 v2 L.length (L.flatMap rwC)) (g3 : w.ownsRow X3 60 4 v3 B.length (B.flatMap bdC))
  (k1 : w.ownsRow X4 3 1 u1 (gensS sl).length (ints (gensS sl))) (k2 : w.ownsRow X5 56 11 u2 L.length (L.flatMap rwC)) (k3 : w.ownsRow X6 60 4 u3 B.length (B.flatMap bdC)) :
  Calls Tryz.prog 10 #[.agg #[v1,v2,v3],.agg #[u1,u2,u3]] w fun e w' => e = .returned (.bool true) ∧ Below w.heap.size w w':=by
 obtain ⟨A1,c1,rfl,-,-⟩:=row_slice g1
 obtain ⟨A2,c2,rfl,-,-⟩:=row_slice g2
 obtain ⟨A3,c3,rfl,-,-⟩:=row_slice g3
 obtain ⟨A4,c4,rfl,-,-⟩:=row_slice k1
 obtain ⟨A5,c5,rfl,-,-⟩:=row_slice k2
 obtain ⟨A6,c6,rfl,-,-⟩:=row_slice k3
 have hlg : (gensS sl).length ≤ 60:=by unfold gensS;rw [List.length_map];exact hO.w.ok.1
 have hll:=hO.w.len;have hbl:=hO.len
 generalize gensS sl = gs at *
 obtain ⟨w0,hw0,hb0,hz0,hs0⟩:=box1 w (.cells #[.slice A1 gs.length c1,.slice A2 L.length c2,.slice A3 B.length c3] 26)
 obtain ⟨w1,hw1,hb1,hz1,hs1⟩:=box1 w0 (.cells #[.slice A4 gs.length c4,.slice A5 L.length c5,.slice A6 B.length c6] 26)
 have hb01:=hb0.trans (hb1.mono hb0.size)
 have hz01:=(Mod.ofBelow hb1).keep hz0 (by simp)
 have H1:=Lib.hid (fun V (hb : Below w.heap.size w V) => eqInts_self gs _ _ V (by omega) (row_mod g1 (Mod.ofBelow hb) (by simp)) (row_mod k1 (Mod.ofBelow hb) (by simp)))
 have H2:=Lib.hid (fun V (hb : Below w.heap.size w V) => eqRows_self L _ _ V (by omega) (row_mod g2 (Mod.ofBelow hb) (by simp)) (row_mod k2 (Mod.ofBelow hb) (by simp)))
 have H3:=Lib.hid (fun V (hb : Below w.heap.size w V) => eqBonds_self B _ _ V (by omega) (row_mod g3 (Mod.ofBelow hb) (by simp)) (row_mod k3 (Mod.ofBelow hb) (by simp)))
 obtain ⟨a0,a1,a2,al⟩:=cells3 hz01
 obtain ⟨b0,b1,b2,bl⟩:=cells3 hz1
 obtain ⟨Hb01,Hz01,Hz1,Hs0,Hs1⟩:=hid5 hb01 hz01 hz1 hs0 hs1
 clear hb01 hz01 hz1 hs0 hs1
 clear g1 g2 g3 k1 k2 k3 hb0 hb1 hz0
 go_enter Tryz.func10,Tryz.ntmps10
 go_wp2_with fail
 clear hw0 hw1
 refine (H1.out _ Hb01.out).mono ?_
 rintro e w2 ⟨rfl,hb2⟩
 have hz02:=(Mod.ofBelow hb2).keep Hz01.out (by simp)
 have hz12:=(Mod.ofBelow hb2).keep Hz1.out (by simp)
 have hb02:=Hb01.out.trans (hb2.mono Hb01.out.size)
 clear a0 a1 a2 al b0 b1 b2 bl
 obtain ⟨a0,a1,a2,al⟩:=cells3 hz02
 obtain ⟨b0,b1,b2,bl⟩:=cells3 hz12
 obtain ⟨Hz02,Hz12,Hb02⟩:=hid3 hz02 hz12 hb02
 clear hz02 hz12 hb02
 clear hb2
 go_wp2_with fail
 refine (H2.out _ Hb02.out).mono ?_
 rintro e w3 ⟨rfl,hb3⟩
 have hz03:=(Mod.ofBelow hb3).keep Hz02.out (by simp)
 have hz13:=(Mod.ofBelow hb3).keep Hz12.out (by simp)
 have hb03:=Hb02.out.trans (hb3.mono Hb02.out.size)
 clear a0 a1 a2 al b0 b1 b2 bl
 obtain ⟨a0,a1,a2,al⟩:=cells3 hz03
 obtain ⟨b0,b1,b2,bl⟩:=cells3 hz13
 obtain ⟨Hz03,Hz13,Hb03⟩:=hid3 hz03 hz13 hb03
 clear hz03 hz13 hb03
 clear hb3
 go_wp2_with fail
 refine (H3.out _ Hb03.out).mono ?_
 rintro e w4 ⟨rfl,hb4⟩
 have hb04:=Hb03.out.trans (hb4.mono Hb03.out.size)
 have Hb04:=Lib.hid hb04
 clear hb04
 clear hb4
 go_wp2
 go_ret
 exact ⟨rfl,Hb04.out⟩
def NewV (w : World) (e : Ending) (w' : World) : Prop:=∃ z p f F,e = .returned (.pointer (some ⟨z,0,none⟩)) ∧ RepV z p f [] [] [] w' F ∧ (∀ y ∈ F,w.heap.size ≤ y) ∧ Below w.heap.size w w'
set_option maxRecDepth 20000 in
theorem zooNew_any (w : World) : Calls Tryz.prog 43 #[] w (NewV w):=by
 go_enter Tryz.func43,Tryz.ntmps43
 go_wp2_with fail
 refine (worldNew_any w).mono ?_
 rintro e w1 ⟨p,FW,rfl,hW,hFW,hb1⟩
 obtain ⟨HW,HFW,Hb1⟩:=hid3 hW hFW hb1
 clear hW hFW hb1
 go_wp2_with fail
 refine (famNew_any w1).mono ?_
 rintro e w2 ⟨f,FF,rfl,hF,hFF,hb2⟩
 obtain ⟨w3,hw3,hb3,hz3,hs3⟩:=box1 w2 (.cells #[.pointer (some ⟨p,0,none⟩),.pointer (some ⟨f,0,none⟩)] 109)
 have hlW:=HW.out.lt;have hlF:=hF.lt
 have hs1:=Hb1.out.size;have hs2:=hb2.size
 have hfin : RepV w2.heap.size p f [] [] [] w3 (w2.heap.size :: (FW ++ FF)):=⟨hz3,FW,FF,(HW.out.below hb2).below hb3,hF.below hb3,rfl,fun e => by have:=hlW _ e;omega,fun e => by have:=hlF _ e;omega,fun y hy e => by have h1:=hlW y hy;have h2:=hFF y e;omega⟩
 have hge : ∀ y ∈ w2.heap.size :: (FW ++ FF),w.heap.size ≤ y:=fun y hy => by
  rcases List.mem_cons.1 hy with rfl | hy
  ·omega
  ·rcases List.mem_append.1 hy with hy | hy
   ·exact HFW.out y hy
   ·have:=hFF y hy;omega
 have hb03:=(Hb1.out.trans (hb2.mono hs1)).trans (hb3.mono (by omega))
 obtain ⟨Hfin,Hge,Hb03⟩:=hid3 hfin hge hb03
 clear hfin hge hb03
 clear hb2 hb3 hz3 hs3 hlW hlF hs1 hs2 hF hFF
 go_wp2
 go_ret
 exact ⟨_,_,_,_,rfl,Hfin.out,Hge.out,Hb03.out⟩
section
variable {Lo : Nat} {Z : List Nat} {z p f q : Nat} {sl sl' sl2 : Sl} {L L' L2 : List Rw} {B B' B2 : List Bd} {w : World}
variable {d K a0 a1 a2 a3 a4 a5 a6 a7 s g ts tg kd n r0 r1 e0 : Int}
end
def RowH (l : List Hd) (v : Value) (w : World) (F : List Nat) : Prop:=w.ownsRow 0 47 2 v l.length (l.flatMap handleC) ∧ F = v.ownBlock.toList
theorem own_H (l : List Hd) (v : Value) : Own (RowH l v):=⟨fun h hm hd => ⟨row_mod h.1 hm (fun k hk => hd k (by rw [h.2];simp [hk])),h.2⟩,fun h y hy => row_lt h.1 y (by rw [h.2] at hy;simpa using hy)⟩
def RepX (z : Nat) (sl : Sl) (L : List Rw) (B : List Bd) (w : World) (F : List Nat) : Prop:=∃ p f,RepV z p f sl L B w F
theorem own_X (z : Nat) (sl : Sl) (L : List Rw) (B : List Bd) : Own (RepX z sl L B):=⟨fun ⟨p,f,h⟩ hm hd => ⟨p,f,h.mod hm hd⟩,fun ⟨_,_,h⟩ => h.lt⟩
theorem Sep.modZ {Lo : Nat} {Z Y : List Nat} {A B : World → List Nat → Prop} {w w' : World} (hA : Own A) (hB : Own B) (h : Sep Lo Z A B w) (hm : Mod Y w w') (hY : ∀ y ∈ Y,y ∈ Z) : Sep Lo Z A B w':=by
 obtain ⟨F,G,⟨a,b,d,af,bf,lo,zl⟩⟩:=h
 have hs:=hm.size
 exact ⟨F,G,⟨hA.mod a hm (fun y hy e => (af y hy).2 (hY y e)),hB.mod b hm (fun y hy e => (bf y hy).2 (hY y e)),d,af,bf,by omega,fun z hz => by have:=zl z hz;omega⟩⟩
theorem app_handleT {w : World} {ops : Array Oper} {rest : List Oper} {o : Oper} {a : Act} {Q : Exit → Act → World → Prop} (hgd : o.guard = none) (s x : Operand)
  (ho : o.op = .call { callee:=.builtin .append,args:=#[s,x],argTypes:=#[156,156] }) (v : Value) (l : List (Int × Int)) (y : Int × Int) (ad : Addr) (c : Nat)
  (hs : a.eval s = v) (hown : w.ownsRow 0 47 2 v l.length (l.flatMap handleC)) (hx : a.eval x = .slice (some ad) 1 c) (hc : ∀ j u,(handleC y)[j]? = some u → w.cell? (ad.add j) = some u)
  (hlen : l.length < 8796093022207)
  (h : ∀ v' w',OwnPost (RowH (l ++ [y]) v') v.ownBlock.toList w w' → wpList Tryz.prog ops Q rest (a.put o.dst v') w') : wpList Tryz.prog ops Q (o :: rest) a w:=by
 refine app_rec (enc:=handleC) (n:=2) (z:=.agg #[.int .i64 0,.int .i64 0]) (bytes:=16) hgd s x 156 47 ho Tryz.underlying156 info_handle rfl (by omega) (by omega) handleC_one handleC_len 0 v l y ad c hs hown hx hc (by omega) (by omega) ?_
 intro v' w' h1 h2 h3
 refine h v' w' ⟨v'.ownBlock.toList,⟨h1,rfl⟩,grown_mod h2,fun k hk => ?_⟩
 rcases h3 with h3 | h3
 ·rw [h3] at hk;exact .inl hk
 ·rw [h3] at hk;simp at hk;exact .inr (by omega)
def midO (sp : List Hd) (j : Nat) : Ov → Ov | (d,b,h,t,k,n) => (d,b,if 0 < j then (meanH sp h true).1 else h,if 1 < j then (meanH sp t true).1 else t,k,n)
def midOk (sp : List Hd) (j : Nat) : Ov → Bool | (_,_,h,t,_,_) => (if 0 < j then (meanH sp h true).2 else true) && (if 1 < j then (meanH sp t true).2 else true)
theorem meanH_off (sp : List Hd) (h : Hd) : meanH sp h false = (h,true):=meanH_self sp h false (.inl rfl)
theorem midO_end {sp : List Hd} {nl : Nat} {x : Ov} (hA : lkA x.1 = decide (0 < nl)) (hT : lkT x.1 = decide (1 < nl)) : midO sp nl x = meanO sp x ∧ midOk sp nl x = meanOk sp x:=by
 obtain ⟨d,b,h,t,k,n⟩:=x
 simp only at hA hT
 unfold midO midOk meanO meanOk
 simp only
 rw [hA,hT]
 by_cases h0 : 0 < nl <;> by_cases h1 : 1 < nl <;> simp [h0,h1,meanH_off]
theorem v_move {z z2 p p2 f f2 : Nat} {sl sl2 : Sl} {L L2 : List Rw} {B B2 : List Bd} {w : World} {F F2 : List Nat} (h : RepV z p f sl L B w F) (h2 : RepV z2 p2 f2 sl2 L2 B2 w F2) (hd : z ∉ F2) :
  ∃ F',RepV z p2 f2 sl2 L2 B2 (w.setCells z 0 [.pointer (some ⟨p2,0,none⟩),.pointer (some ⟨f2,0,none⟩)]) F' ∧ ∀ y ∈ F',y = z ∨ y ∈ F2:=by
 have hm:=mod_setCells (F:=[z]) (g:=z) (.inl (by simp)) [.pointer (some ⟨p2,0,none⟩),.pointer (some ⟨f2,0,none⟩)] 0 w (Mod.refl _ w)
 have hz:=setCells_block (w:=w) [.pointer (some ⟨p2,0,none⟩),.pointer (some ⟨f2,0,none⟩)] 0 w [.pointer (some ⟨p,0,none⟩),.pointer (some ⟨f,0,none⟩)] h.1
 obtain ⟨-,FW,FF,g2,g3,rfl,g4,g5,g6⟩:=h2
 have hW : z ∉ FW:=fun e => hd (by simp [e])
 have hF : z ∉ FF:=fun e => hd (by simp [e])
 refine ⟨z :: (FW ++ FF),⟨hz,FW,FF,g2.mod hm (fun y hy e => hW (by simp at e;exact e ▸ hy)),g3.mod hm (fun y hy e => hF (by simp at e;exact e ▸ hy)),rfl,hW,hF,g6⟩,fun y hy => ?_⟩
 rcases List.mem_cons.1 hy with e | e
 ·exact .inl e
 ·exact .inr (List.mem_cons_of_mem _ e)
theorem allS_hdR {sl : Sl} {L : List Rw} (h : WOk sl L) {x : Hd} (hx : x ∈ allS sl) : HdR x:=by
 obtain ⟨s,g⟩:=x
 obtain ⟨j,h1,hj,-,h2⟩:=(mem_allFrom sl 0 s g).1 hx
 have h3:=h.ok.at_ hj
 have h4:=h.ok.1
 unfold HdR InR
 simp only
 omega
def AllP (z : Nat) (sl : Sl) (L : List Rw) (B : List Bd) (s1 : Sl) (L1 : List Rw) (B1 : List Bd) (F : List Nat) (n e : Int) (w : World) (x : Ending) (w' : World) : Prop :=
 x = .returned (.tuple #[.int .i64 n,.int .i64 e]) ∧ (e = 0 → OwnPost (RepX z s1 L1 B1) F w w') ∧ (e ≠ 0 → OwnPost (RepX z sl L B) F w w')
section
variable {z p f : Nat} {sl : Sl} {L : List Rw} {B : List Bd} {w : World} {F : List Nat}
set_option maxRecDepth 20000 in
set_option maxHeartbeats 1000000 in
theorem vall_long (h : RepV z p f sl L B w F) (A : Option Addr) (c : Nat) (l : List Ov) (hl : 80 < l.length) (hl2 : l.length ≤ 9223372036854775807) :
  Calls Tryz.prog 77 #[.pointer (some ⟨z,0,none⟩),.slice A l.length c] w (AllP z sl L B sl L B F 0 2 w):=by
 have hfin : AllP z sl L B sl L B F 0 2 w (.returned (.tuple #[.int .i64 0,.int .i64 2])) w:=⟨rfl,fun e => (by cases e),fun _ => OwnPost.ofBelow (own_X _ _ _ _) ⟨p,f,h⟩ (Below.refl _ _)⟩
 have hlt : (80 : Int) < (l.length : Int):=by omega
 have Hfin:=Lib.hid hfin
 clear hfin
 clear h
 go_enter Tryz.func77,Tryz.ntmps77
 go_wp2
 refine bodyPost_ret (v:=.tuple #[.int .i64 0,.int .i64 2]) (by unfold results;try go_simp) rfl Hfin.out
set_option maxRecDepth 100000 in
set_option maxHeartbeats 8000000 in
theorem vall_run (h : RepV z p f sl L B w F) (hO : ZOk sl L B) (hq : ∀ b ∈ B,b.2 ∈ allS sl) (A : Option Addr) (c : Nat) (l : List Ov) (hl : l.length ≤ 80) (hA : Lies w w.heap.size A (l.flatMap opC)) {n e : Int} {s1' : Sl} {L1 : List Rw} {B1 : List Bd} (hall : AllAt sl L B [] 0 l n e s1' L1 B1) :
  Calls Tryz.prog 77 #[.pointer (some ⟨z,0,none⟩),.slice A l.length c] w (AllP z sl L B s1' L1 B1 F n e w):=by
 have H1:=Lib.hid (vstate_any h hO.len)
 have hls:=load_self hO hq
 have hhd : ∀ b ∈ B,HdR b.1 ∧ HdR b.2:=fun b hb => ⟨allS_hdR hO.w (hO.c b hb),allS_hdR hO.w (hq b hb)⟩
 have hlg : (gensS sl).length ≤ 60:=by unfold gensS;rw [List.length_map];exact hO.w.ok.1
 have hll:=hO.w.len;have hbl:=hO.len
 have hlF:=h.lt
 obtain ⟨HA,Hall,Hls,Hhd,HV,HlF,Hlg,Hll,Hbl⟩:=hid9 hA hall hls hhd h hlF hlg hll hbl
 clear hA hall hls hhd h hlF hlg hll hbl
 clear hO hq
 go_enter Tryz.func77,Tryz.ntmps77
 go_wp2_with fail
 refine H1.out.mono ?_
 rintro x1 w1 ⟨v1,v2,v3,rfl,g1,g2,g3,hb1⟩
 obtain ⟨A1,c1,rfl,-,hL1⟩:=row_lies g1
 obtain ⟨A2,c2,rfl,-,hL2⟩:=row_lies g2
 obtain ⟨A3,c3,rfl,-,hL3⟩:=row_lies g3
 have H2:=Lib.hid (zload_any (c1:=c1) (c2:=c2) (c3:=c3) (by have:=Hlg.out;omega) (by have:=Hll.out;omega) (by have:=Hbl.out;omega) hL1 hL2 hL3 Hhd.out)
 have Hb1:=Lib.hid hb1
 clear hb1
 clear g1 g2 g3 hL1 hL2 hL3 H1
 go_wp2_with fail
 refine H2.out.mono ?_
 rintro x2 w2 ⟨hb2,⟨hne,-⟩ | ⟨-,z2,p2,f2,F2,rfl,hV2,hF2,-⟩⟩
 ·exact absurd Hls.out.1 hne
 rw [Hls.out.2.1,Hls.out.2.2.1,Hls.out.2.2.2] at hV2
 have hb02:=Hb1.out.trans (hb2.mono Hb1.out.size)
 have hS2 : Sep w.heap.size [] (RepV z2 p2 f2 sl L B) (RowH [] (.slice none 0 0)) w2:=⟨F2,[],⟨hV2,⟨⟨rfl,.inl ⟨rfl,rfl⟩⟩,rfl⟩,by simp,fun y hy => ⟨Nat.le_trans Hb1.out.size (hF2 y hy),by simp⟩,by simp,hb02.size,by simp⟩⟩
 obtain ⟨HS2,Hb02⟩:=hid2 hS2 hb02
 clear hS2 hb02
 clear hb2 hV2 hF2 H2
 go_wp2_with fail
 go_loopw [8,26] (fun v i wr => ∃ (k : Nat) (sl2 : Sl) (L2 : List Rw) (B2 : List Bd) (sp : List Hd) (A8 : Option Addr) (k8 : Nat),k ≤ l.length ∧ sp.length ≤ k ∧ v = .slice A8 sp.length k8 ∧ i = .int .i64 k ∧ AllAt sl2 L2 B2 sp k (l.drop k) n e s1' L1 B1 ∧ Sep w.heap.size [] (RepV z2 p2 f2 sl2 L2 B2) (RowH sp (.slice A8 sp.length k8)) wr ∧ Below w.heap.size w wr) (fun _ i _ => l.length - (Go.RowKit.intOf i).toNat)
 case atStart => exact ⟨0,sl,L,B,[],none,0,by omega,by simp,rfl,rfl,Hall.out,HS2.out,Hb02.out⟩
 case round =>
  obtain ⟨k,sl2,L2,B2,sp,A8,k8,hk,hsp,rfl,rfl,hat,hS,hB⟩:=hrel
  have hsz:=hB.size
  by_cases hlt : k < l.length
  ·obtain ⟨ab,ao,rfl,hal,hc⟩:=HA.out.rec_at opC_len (by omega) hlt
   have hq : ∀ j u,(opC l[k])[j]? = some u → wr.cell? ((⟨ab,ao + k * 16,none⟩ : Addr).add j) = some u:=fun j u hu => (hB.cell (p:=(⟨ab,ao + k * 16,none⟩ : Addr).add j) (by rw [add_block];exact hal)).trans (by first | exact hc j u hu | (have:=hc j u hu;rw [Addr.add_mid];exact this))
   have hki : (k : Int) < (l.length : Int):=by omega
   rw [List.drop_eq_getElem_cons hlt] at hat
   generalize l[k] = x at *
   obtain ⟨d,⟨K,a0,a1,a2,a3,a4,a5,a6,a7⟩,⟨s,g⟩,⟨ts,tg⟩,kd,m⟩:=x
   obtain ⟨w3,hw3,hb3,hk3,hs3⟩:=box1 wr (.cells #[.int .i64 d,.int .i64 K,.int .i64 a0,.int .i64 a1,.int .i64 a2,.int .i64 a3,.int .i64 a4,.int .i64 a5,.int .i64 a6,.int .i64 a7,.int .i64 s,.int .i64 g,.int .i64 ts,.int .i64 tg,.int .i64 kd,.int .i64 m] 49)
   have hS3:=Sep.fresh (own_V _ _ _ _ _ _) (own_H _ _) hS hb3 wr.heap.size (Nat.le_refl _) (by omega)
   have hB3:=hB.trans (hb3.mono hB.size)
   have HLk:=Lib.hid (looks_any (w:=w3) (o:=wr.heap.size) d (by rw [blk_cell hk3];rfl) (by omega))
   obtain ⟨HQ,Hat,HS3,HB3,Hk3,Hw3,Hs3,HLo,Hlt⟩:=hid9 hq hat hS3 hB3 hk3 hw3 hs3 hsz hlt
   clear hq hat hS3 hB3 hk3 hw3 hs3 hsz hlt
   clear hc hS hB hb3 hal
   go_wp2_with (first | (refine wpList_load_flat rfl 49 (.tmp 29) rfl _ rfl (opC (d,(K,a0,a1,a2,a3,a4,a5,a6,a7),(s,g),(ts,tg),kd,m)) _ Tryz.underlying49 rfl (sz_Op _) HQ.out ?_) | (refine wpList_store_new rfl 49 (.tmp 10) (.tmp 30) rfl wr (ints [0,0,0,0,0,0,0,0,0,0,0,0,0,0,0,0]) (opC (d,(K,a0,a1,a2,a3,a4,a5,a6,a7),(s,g),(ts,tg),kd,m)) 49 rfl rfl rfl (sz_Op _) (opC_one _) ?_;rw [show (opC (d,(K,a0,a1,a2,a3,a4,a5,a6,a7),(s,g),(ts,tg),kd,m)).toArray = #[.int .i64 d,.int .i64 K,.int .i64 a0,.int .i64 a1,.int .i64 a2,.int .i64 a3,.int .i64 a4,.int .i64 a5,.int .i64 a6,.int .i64 a7,.int .i64 s,.int .i64 g,.int .i64 ts,.int .i64 tg,.int .i64 kd,.int .i64 m] from rfl,Hw3.out]) | fail)
   refine HLk.out.mono ?_
   rintro x4 w4 ⟨nl,v31,hnl,rfl,hrow,hkA,hkT,hb4⟩
   obtain ⟨A31,c31,rfl,-,-⟩:=row_slice hrow
   have hk4:=(Mod.ofBelow hb4).keep Hk3.out (by simp)
   have hS4:=(Sep.below (own_V _ _ _ _ _ _) (own_H _ _) HS3.out hb4)
   have hB4:=HB3.out.trans hS4.2.1
   have hS4:=hS4.1
   rw [Hs3.out] at hrow
   generalize ho : wr.heap.size = o at *
   obtain ⟨Hrow,HkA,HkT,Hk4,HS4,HB4,HNl,Ho⟩:=hid8 hrow hkA hkT hk4 hS4 hB4 hnl ho
   clear hrow hkA hkT hk4 hS4 hB4 hnl ho
   clear HLk HS3 HB3 Hk3 Hs3 Hw3 hb4 HQ
   go_wp2_with fail
   go_loopw [33] (fun i wr => ∃ j : Nat,j ≤ nl ∧ i = .int .i64 j ∧ wr.heap[o]? = some (.cells (opC (midO sp j (d,(K,a0,a1,a2,a3,a4,a5,a6,a7),(s,g),(ts,tg),kd,m))).toArray 49 (0,0)) ∧ midOk sp j (d,(K,a0,a1,a2,a3,a4,a5,a6,a7),(s,g),(ts,tg),kd,m) = true ∧ wr.ownsRow (o + 1) 208 1 (.slice A31 nl c31) nl (ptrL o nl) ∧ Sep w.heap.size [o] (RepV z2 p2 f2 sl2 L2 B2) (RowH sp (.slice A8 sp.length k8)) wr ∧ Below w.heap.size w wr) (fun i _ => nl - (Go.RowKit.intOf i).toNat)
   case atStart => exact ⟨0,by omega,rfl,Hk4.out,rfl,Hrow.out,HS4.out,HB4.out⟩
   case round =>
    obtain ⟨j,hj,rfl,hbox,hok,hrow,hS,hB⟩:=hrel
    by_cases hlt2 : j < nl
    ·obtain ⟨g31,cap31,cur31,he31,-,-,-⟩:=row_some hrow (by omega)
     cases he31
     have hnl2 : (nl : Int) ≤ 2:=by have:=HNl.out;omega
     have hji : (j : Int) < (nl : Int):=by omega
     have h01 : j = 0 ∨ j = 1:=by have:=HNl.out;omega
     rcases h01 with rfl | rfl
     ·skip
      have hbox : wr.heap[o]? = some (.cells #[.int .i64 d,.int .i64 K,.int .i64 a0,.int .i64 a1,.int .i64 a2,.int .i64 a3,.int .i64 a4,.int .i64 a5,.int .i64 a6,.int .i64 a7,.int .i64 s,.int .i64 g,.int .i64 ts,.int .i64 tg,.int .i64 kd,.int .i64 m] 49 (0,0)):=hbox
      have e2 : ∀ h2 : Hd,(meanH sp (s,g) true).1 = h2 → midO sp 1 (d,(K,a0,a1,a2,a3,a4,a5,a6,a7),(s,g),(ts,tg),kd,m) = (d,(K,a0,a1,a2,a3,a4,a5,a6,a7),h2,(ts,tg),kd,m):=fun h2 e => by rw [← e];rfl
      have ok2 : (meanH sp (s,g) true).2 = true → midOk sp 1 (d,(K,a0,a1,a2,a3,a4,a5,a6,a7),(s,g),(ts,tg),kd,m) = true:=fun e => by
       unfold midOk
       simp [e]
      have no2 : (meanH sp (s,g) true).2 = false → meanOk sp (d,(K,a0,a1,a2,a3,a4,a5,a6,a7),(s,g),(ts,tg),kd,m) = false:=fun e => by
       unfold meanOk
       simp only
       rw [show lkA d = true from HkA.out.trans (by simpa using (Nat.lt_of_le_of_lt (Nat.zero_le _) hlt2)),e,Bool.false_and]
      have hget : (ptrL o nl)[0]? = some (.pointer (some ⟨o,10,none⟩)):=by
       have h1 : nl = 1 ∨ nl = 2:=by have:=HNl.out;omega
       rcases h1 with h1 | h1 <;> rw [h1] <;> rfl
      have hpc:=row_cell hrow hget
      have hg31:=row_lt hrow g31 rfl
      obtain ⟨c0,c1,c2,c3,c4,c5,c6,c7,c8,c9,c10,c11,c12,c13,c14,c15,cl⟩:=cells16 hbox
      obtain ⟨Hbox,Hrow2,HSi,HBi,Hok,E2,Ok2,No2⟩:=hid8 hbox hrow hS hB hok e2 ok2 no2
      clear hbox hrow hS hB hok e2 ok2 no2
      by_cases h0 : 0 ≤ s
      ·have hme:=meanH_self sp (s,g) true (.inr h0)
       have hrel:=E2.out _ (by rw [hme])
       have hok2:=Ok2.out (by rw [hme])
       have HB2:=Lib.hid (show wr.heap[o]? = some (.cells (opC (midO sp 1 (d,(K,a0,a1,a2,a3,a4,a5,a6,a7),(s,g),(ts,tg),kd,m))).toArray 49 (0,0)) by rw [hrel];exact Hbox.out)
       obtain ⟨HRel,Hok2,Hme⟩:=hid3 hrel hok2 hme
       clear hrel hok2 hme
       clear Hbox
       go_wp2
       go_roundw
       case rel => exact ⟨1,by omega,by go_num,HB2.out,Hok2.out,Hrow2.out,HSi.out,HBi.out⟩
       case measure => simp [Go.RowKit.intOf];omega
      ·by_cases hn : s < -(sp.length : Int)
       ·have hno:=No2.out (by rw [meanH_no sp (s,g) hn])
        have hfin : AllP z sl L B s1' L1 B1 F n e w (.returned (.tuple #[.int .i64 k,.int .i64 5])) wr:=by
         rcases Hat.out with ⟨-,rfl,rfl⟩ | ⟨h,-⟩
         ·exact ⟨rfl,fun e => (by cases e),fun _ => OwnPost.ofBelow (own_X _ _ _ _) ⟨p,f,HV.out⟩ HBi.out⟩
         ·rw [hno] at h;cases h
        obtain ⟨Hfin,Hno⟩:=hid2 hfin hno
        clear hfin hno
        go_wp2
        refine bodyPost_ret (v:=.tuple #[.int .i64 k,.int .i64 5]) (by unfold results;try go_simp) rfl Hfin.out
       ·obtain ⟨mi,hmi,hm1,hml⟩ : ∃ mi : Nat,s = -(mi : Int) ∧ 1 ≤ mi ∧ mi - 1 < sp.length:=⟨(-s).toNat,by omega,by omega,by omega⟩
        have hin:=meanH_in sp (s,g) (by simp only;omega) (by simp only;omega)
        have hix : (-s - 1).toNat = mi - 1:=by omega
        simp only [hix] at hin
        obtain ⟨F8,G8,hS8⟩:=HSi.out
        have hr8:=hS8.b.1
        obtain ⟨g8,cap8,cur8,he8,-,-,-⟩:=row_some hr8 (by omega)
        cases he8
        have hp8:=row_piece handleC_len hr8 hml 0 (handleC sp[mi - 1]) (fun j u hu => by rw [Nat.zero_add];exact hu)
        have hg8:=row_lt hr8 g8 rfl
        generalize sp[mi - 1] = y8 at *
        obtain ⟨sm,gm⟩:=y8
        have hrel:=E2.out (sm,gm) (by rw [hin])
        have hok2:=Ok2.out (by rw [hin])
        have hmod:=mod_setCells (F:=[o]) (g:=o) (.inl (by simp)) [.int .i64 sm,.int .i64 gm] 10 wr (Mod.refl _ wr)
        have hb2:=setCells_block (w:=wr) [.int .i64 sm,.int .i64 gm] 10 wr [.int .i64 d,.int .i64 K,.int .i64 a0,.int .i64 a1,.int .i64 a2,.int .i64 a3,.int .i64 a4,.int .i64 a5,.int .i64 a6,.int .i64 a7,.int .i64 s,.int .i64 g,.int .i64 ts,.int .i64 tg,.int .i64 kd,.int .i64 m] Hbox.out
        have hth : wr.there o 10 2:=fun j hj => ⟨by
         have h:=blk_cell Hbox.out (10 + j)
         have : j = 0 ∨ j = 1:=by omega
         rcases this with rfl | rfl
         ·rw [h];rfl
         ·rw [h];rfl,blk_free Hbox.out _⟩
        obtain ⟨W2,hW2⟩ : ∃ W2,wr.setCells o 10 [.int .i64 sm,.int .i64 gm] = W2:=⟨_,rfl⟩
        rw [hW2] at hmod hb2
        have hb3 : W2.heap[o]? = some (.cells (opC (midO sp 1 (d,(K,a0,a1,a2,a3,a4,a5,a6,a7),(s,g),(ts,tg),kd,m))).toArray 49 (0,0)):=by rw [hrel];exact hb2
        have hrow3:=row_mod Hrow2.out hmod (fun k hk e => by have:=own_ge Hrow2.out k hk;simp at e;omega)
        have hS3:=Sep.modZ (own_V _ _ _ _ _ _) (own_H _ _) HSi.out hmod (by simp)
        have hB3 : Below w.heap.size w W2:=HBi.out.trans (hmod.toBelow (fun y hy => by simp at hy;subst hy;exact HLo.out) HBi.out.size)
        have hmr : (mi : Int) - 1 < (sp.length : Int):=by omega
        have hm1' : (1 : Int) ≤ (mi : Int):=by omega
        obtain ⟨Hp8,HB3,Hrow3,HS3,HBel3,Hth,Hok2,HW2⟩:=hid8 hp8 hb3 hrow3 hS3 hB3 hth hok2 hW2
        clear hp8 hb3 hrow3 hS3 hB3 hth hok2 hW2
        clear hmod hb2 hr8 hS8 hin hrel hix
        subst hmi
        go_wp2_with (first | (refine wpList_load_flat rfl 47 (.tmp 59) rfl _ rfl [.int .i64 sm,.int .i64 gm] _ Tryz.underlying47 rfl (by kernel_rfl) Hp8.out ?_) | (refine wpList_store_at rfl 47 (.tmp 61) (.tmp 60) rfl o 10 [.int .i64 sm,.int .i64 gm] rfl rfl Hth.out (by kernel_rfl) (ints_one [sm,gm]) ?_;rw [HW2.out];clear c0 c1 c2 c3 c4 c5 c6 c7 c8 c9 c10 c11 c12 c13 c14 c15 cl) | fail)
        go_roundw
        case rel => exact ⟨1,by omega,by go_num,HB3.out,Hok2.out,Hrow3.out,HS3.out,HBel3.out⟩
        case measure => simp [Go.RowKit.intOf];omega
     ·skip
      have e1 : midO sp 1 (d,(K,a0,a1,a2,a3,a4,a5,a6,a7),(s,g),(ts,tg),kd,m) = (d,(K,a0,a1,a2,a3,a4,a5,a6,a7),(meanH sp (s,g) true).1,(ts,tg),kd,m):=rfl
      rw [e1] at hbox
      have e2 : ∀ h2 : Hd,(meanH sp (ts,tg) true).1 = h2 → midO sp 2 (d,(K,a0,a1,a2,a3,a4,a5,a6,a7),(s,g),(ts,tg),kd,m) = (d,(K,a0,a1,a2,a3,a4,a5,a6,a7),(meanH sp (s,g) true).1,h2,kd,m):=fun h2 e => by rw [← e];rfl
      have ok2 : (meanH sp (ts,tg) true).2 = true → midOk sp 2 (d,(K,a0,a1,a2,a3,a4,a5,a6,a7),(s,g),(ts,tg),kd,m) = true:=fun e => by
       have e3 : (meanH sp (s,g) true).2 = true:=by have h:=hok;unfold midOk at h;simpa using h
       unfold midOk
       simp [e3,e]
      have no2 : (meanH sp (ts,tg) true).2 = false → meanOk sp (d,(K,a0,a1,a2,a3,a4,a5,a6,a7),(s,g),(ts,tg),kd,m) = false:=fun e => by
       unfold meanOk
       simp only
       rw [show lkT d = true from HkT.out.trans (by simpa using hlt2),e,Bool.and_false]
      generalize (meanH sp (s,g) true).1 = q1 at *
      obtain ⟨s1,g1⟩:=q1
      have hbox : wr.heap[o]? = some (.cells #[.int .i64 d,.int .i64 K,.int .i64 a0,.int .i64 a1,.int .i64 a2,.int .i64 a3,.int .i64 a4,.int .i64 a5,.int .i64 a6,.int .i64 a7,.int .i64 s1,.int .i64 g1,.int .i64 ts,.int .i64 tg,.int .i64 kd,.int .i64 m] 49 (0,0)):=hbox
      have hget : (ptrL o nl)[1]? = some (.pointer (some ⟨o,12,none⟩)):=by
       have h1 : nl = 2:=by have:=HNl.out;omega
       rw [h1];rfl
      have hpc:=row_cell hrow hget
      have hg31:=row_lt hrow g31 rfl
      obtain ⟨c0,c1,c2,c3,c4,c5,c6,c7,c8,c9,c10,c11,c12,c13,c14,c15,cl⟩:=cells16 hbox
      obtain ⟨Hbox,Hrow2,HSi,HBi,Hok,E2,Ok2,No2⟩:=hid8 hbox hrow hS hB hok e2 ok2 no2
      clear hbox hrow hS hB hok e2 ok2 no2 e1
      by_cases h0 : 0 ≤ ts
      ·have hme:=meanH_self sp (ts,tg) true (.inr h0)
       have hrel:=E2.out _ (by rw [hme])
       have hok2:=Ok2.out (by rw [hme])
       have HB2:=Lib.hid (show wr.heap[o]? = some (.cells (opC (midO sp 2 (d,(K,a0,a1,a2,a3,a4,a5,a6,a7),(s,g),(ts,tg),kd,m))).toArray 49 (0,0)) by rw [hrel];exact Hbox.out)
       obtain ⟨HRel,Hok2,Hme⟩:=hid3 hrel hok2 hme
       clear hrel hok2 hme
       clear Hbox
       go_wp2
       go_roundw
       case rel => exact ⟨2,by omega,by go_num,HB2.out,Hok2.out,Hrow2.out,HSi.out,HBi.out⟩
       case measure => simp [Go.RowKit.intOf];omega
      ·by_cases hn : ts < -(sp.length : Int)
       ·have hno:=No2.out (by rw [meanH_no sp (ts,tg) hn])
        have hfin : AllP z sl L B s1' L1 B1 F n e w (.returned (.tuple #[.int .i64 k,.int .i64 5])) wr:=by
         rcases Hat.out with ⟨-,rfl,rfl⟩ | ⟨h,-⟩
         ·exact ⟨rfl,fun e => (by cases e),fun _ => OwnPost.ofBelow (own_X _ _ _ _) ⟨p,f,HV.out⟩ HBi.out⟩
         ·rw [hno] at h;cases h
        obtain ⟨Hfin,Hno⟩:=hid2 hfin hno
        clear hfin hno
        go_wp2
        refine bodyPost_ret (v:=.tuple #[.int .i64 k,.int .i64 5]) (by unfold results;try go_simp) rfl Hfin.out
       ·obtain ⟨mi,hmi,hm1,hml⟩ : ∃ mi : Nat,ts = -(mi : Int) ∧ 1 ≤ mi ∧ mi - 1 < sp.length:=⟨(-ts).toNat,by omega,by omega,by omega⟩
        have hin:=meanH_in sp (ts,tg) (by simp only;omega) (by simp only;omega)
        have hix : (-ts - 1).toNat = mi - 1:=by omega
        simp only [hix] at hin
        obtain ⟨F8,G8,hS8⟩:=HSi.out
        have hr8:=hS8.b.1
        obtain ⟨g8,cap8,cur8,he8,-,-,-⟩:=row_some hr8 (by omega)
        cases he8
        have hp8:=row_piece handleC_len hr8 hml 0 (handleC sp[mi - 1]) (fun j u hu => by rw [Nat.zero_add];exact hu)
        have hg8:=row_lt hr8 g8 rfl
        generalize sp[mi - 1] = y8 at *
        obtain ⟨sm,gm⟩:=y8
        have hrel:=E2.out (sm,gm) (by rw [hin])
        have hok2:=Ok2.out (by rw [hin])
        have hmod:=mod_setCells (F:=[o]) (g:=o) (.inl (by simp)) [.int .i64 sm,.int .i64 gm] 12 wr (Mod.refl _ wr)
        have hb2:=setCells_block (w:=wr) [.int .i64 sm,.int .i64 gm] 12 wr [.int .i64 d,.int .i64 K,.int .i64 a0,.int .i64 a1,.int .i64 a2,.int .i64 a3,.int .i64 a4,.int .i64 a5,.int .i64 a6,.int .i64 a7,.int .i64 s1,.int .i64 g1,.int .i64 ts,.int .i64 tg,.int .i64 kd,.int .i64 m] Hbox.out
        have hth : wr.there o 12 2:=fun j hj => ⟨by
         have h:=blk_cell Hbox.out (12 + j)
         have : j = 0 ∨ j = 1:=by omega
         rcases this with rfl | rfl
         ·rw [h];rfl
         ·rw [h];rfl,blk_free Hbox.out _⟩
        obtain ⟨W2,hW2⟩ : ∃ W2,wr.setCells o 12 [.int .i64 sm,.int .i64 gm] = W2:=⟨_,rfl⟩
        rw [hW2] at hmod hb2
        have hb3 : W2.heap[o]? = some (.cells (opC (midO sp 2 (d,(K,a0,a1,a2,a3,a4,a5,a6,a7),(s,g),(ts,tg),kd,m))).toArray 49 (0,0)):=by rw [hrel];exact hb2
        have hrow3:=row_mod Hrow2.out hmod (fun k hk e => by have:=own_ge Hrow2.out k hk;simp at e;omega)
        have hS3:=Sep.modZ (own_V _ _ _ _ _ _) (own_H _ _) HSi.out hmod (by simp)
        have hB3 : Below w.heap.size w W2:=HBi.out.trans (hmod.toBelow (fun y hy => by simp at hy;subst hy;exact HLo.out) HBi.out.size)
        have hmr : (mi : Int) - 1 < (sp.length : Int):=by omega
        have hm1' : (1 : Int) ≤ (mi : Int):=by omega
        obtain ⟨Hp8,HB3,Hrow3,HS3,HBel3,Hth,Hok2,HW2⟩:=hid8 hp8 hb3 hrow3 hS3 hB3 hth hok2 hW2
        clear hp8 hb3 hrow3 hS3 hB3 hth hok2 hW2
        clear hmod hb2 hr8 hS8 hin hrel hix
        subst hmi
        go_wp2_with (first | (refine wpList_load_flat rfl 47 (.tmp 59) rfl _ rfl [.int .i64 sm,.int .i64 gm] _ Tryz.underlying47 rfl (by kernel_rfl) Hp8.out ?_) | (refine wpList_store_at rfl 47 (.tmp 61) (.tmp 60) rfl o 12 [.int .i64 sm,.int .i64 gm] rfl rfl Hth.out (by kernel_rfl) (ints_one [sm,gm]) ?_;rw [HW2.out];clear c0 c1 c2 c3 c4 c5 c6 c7 c8 c9 c10 c11 c12 c13 c14 c15 cl) | fail)
        go_roundw
        case rel => exact ⟨2,by omega,by go_num,HB3.out,Hok2.out,Hrow3.out,HS3.out,HBel3.out⟩
        case measure => simp [Go.RowKit.intOf];omega
    ·obtain rfl : j = nl:=by omega
     obtain ⟨hm1,hm2⟩:=midO_end (sp:=sp) (x:=(d,(K,a0,a1,a2,a3,a4,a5,a6,a7),(s,g),(ts,tg),kd,m)) HkA.out HkT.out
     rw [hm1] at hbox
     rw [hm2] at hok
     rcases Hat.out with ⟨h,-⟩ | ⟨-,sl3,L3,B3,h3,e1,hD,hcase⟩
     ·rw [hok] at h;cases h
     have hyd : (meanO sp (d,(K,a0,a1,a2,a3,a4,a5,a6,a7),(s,g),(ts,tg),kd,m)).1 = d:=rfl
     generalize meanO sp (d,(K,a0,a1,a2,a3,a4,a5,a6,a7),(s,g),(ts,tg),kd,m) = y at hbox hD hyd
     obtain ⟨d',⟨K',b0,b1,b2,b3,b4,b5,b6,b7⟩,⟨s',g'⟩,⟨t',u'⟩,k',m'⟩:=y
     simp only at hyd
     subst hyd
     obtain ⟨r0,r1⟩:=h3
     have hbox : wr.heap[o]? = some (.cells #[.int .i64 d',.int .i64 K',.int .i64 b0,.int .i64 b1,.int .i64 b2,.int .i64 b3,.int .i64 b4,.int .i64 b5,.int .i64 b6,.int .i64 b7,.int .i64 s',.int .i64 g',.int .i64 t',.int .i64 u',.int .i64 k',.int .i64 m'] 49 (0,0)):=hbox
     have H5:=Lib.hid (Sep.callL (own_V _ _ _ _ _ _) (own_H _ _) hS (fun _ hF => hD.at_.v hF))
     obtain ⟨c0,c1,c2,c3,c4,c5,c6,c7,c8,c9,c10,c11,c12,c13,c14,c15,cl⟩:=cells16 hbox
     obtain ⟨Hbox,HB,Hcase⟩:=hid3 hbox hB hcase
     clear hbox hB hcase
     clear hS hok hrow hm1 hm2 Hat hD
     go_wp2_with fail
     clear c0 c1 c2 c3 c4 c5 c6 c7 c8 c9 c10 c11 c12 c13 c14 c15 cl
     refine H5.out.mono ?_
     rintro x5 w5 ⟨rfl,h5,hb5,hk5⟩
     obtain ⟨w6,hw6,hb6,hz6,hs6⟩:=box1 w5 (.cells #[.int .i64 r0,.int .i64 r1] 47)
     have hS6:=Sep.below (own_V _ _ _ _ _ _) (own_H _ _) h5 hb6
     have hB6:=HB.out.trans (hb5.trans hS6.2.1)
     have hS6:=hS6.1
     have hbox6:=(Mod.ofBelow hb6).keep (hk5 _ (by simp) _ Hbox.out) (by simp)
     obtain ⟨c0,c1,c2,c3,c4,c5,c6,c7,c8,c9,c10,c11,c12,c13,c14,c15,cl⟩:=cells16 hbox6
     obtain ⟨y0,y1,yl⟩:=cells2 hz6
     clear hs6
     by_cases he1 : e1 = 0
     ·subst he1
      have hrest : AllAt sl3 L3 B3 (spawnP sp d' (r0,r1)) ((k + 1 : Nat) : Int) (l.drop (k + 1)) n e s1' L1 B1:=by
       rcases Hcase.out with h | h
       ·exact absurd rfl h.1
       ·have:=h.2;rwa [show ((k + 1 : Nat) : Int) = (k : Int) + 1 by omega]
      obtain ⟨Hrest,HS6,HB6,Hbox6,Hz6⟩:=hid5 hrest hS6 hB6 hbox6 hz6
      clear hrest hS6 hB6 hbox6 hz6
      clear h5 hb5 hk5 hb6 Hcase
      have hlt:=Hlt.out
      by_cases hd1 : d' = 1
      ·subst hd1
       obtain ⟨w7,hw7,hb7,hz7,hs7⟩:=box1 w6 (.cells #[.int .i64 r0,.int .i64 r1] 47)
       have hS7:=Sep.below (own_V _ _ _ _ _ _) (own_H _ _) HS6.out hb7
       have hB7:=HB6.out.trans hS7.2.1
       obtain ⟨F8,G8,hS8⟩:=hS7.1
       have hr8:=hS8.b.1
       have hG8:=hS8.b.2
       subst hG8
       have hnr : ∀ j u,(handleC (r0,r1))[j]? = some u → w7.cell? ((⟨w6.heap.size,0,none⟩ : Addr).add j) = some u:=by rw [← hw7];exact new_rec rfl rfl
       obtain ⟨HB7,HS8,Hr8,Hnr,Hw7⟩:=hid5 hB7 hS8 hr8 hnr hw7
       clear hB7 hS8 hr8 hnr hw7
       clear hS7 hb7 hz7 hs7
       go_wp2_with (first | (at_builtin;rw [Hw7.out];refine app_handleT rfl _ _ rfl _ sp (r0,r1) ⟨w6.heap.size,0,none⟩ 1 rfl Hr8.out rfl Hnr.out (by omega) ?_;intro v9 w9 h9;obtain ⟨A9,k9,rfl,-,-⟩ : ∃ A9 k9,v9 = .slice A9 (sp ++ [(r0,r1)]).length k9 ∧ (sp ++ [(r0,r1)]).length ≤ k9 ∧ k9 ≤ maxLen:=(by obtain ⟨G9,h9',-⟩:=h9;exact row_slice h9'.1);clear c0 c1 c2 c3 c4 c5 c6 c7 c8 c9 c10 c11 c12 c13 c14 c15 cl y0 y1 yl) | fail)
       have hS9:=HS8.out.right (own_V _ _ _ _ _ _) (own_H _ _) h9
       have hB9:=HB7.out.trans hS9.2.1
       have hS9:=Sep.drop (Y:=[]) hS9.1 (by simp)
       obtain ⟨HS9,HB9⟩:=hid2 hS9 hB9
       clear hS9 hB9
       clear h9
       go_roundw
       case rel => exact ⟨k + 1,sl3,L3,B3,sp ++ [(r0,r1)],A9,k9,by omega,by simp;omega,by simp,by go_num,Hrest.out,HS9.out,HB9.out⟩
       case measure => simp [Go.RowKit.intOf];omega
      ·have hd1b : (d' == 1) = false:=by simp [hd1]
       have hsp2 : spawnP sp d' (r0,r1) = sp:=if_neg hd1
       have Hsp2:=Lib.hid hsp2
       clear hsp2
       go_wp2
       go_roundw
       case rel => exact ⟨k + 1,sl3,L3,B3,sp,A8,k8,by omega,by omega,rfl,by go_num,by rw [← Hsp2.out];exact Hrest.out,Sep.drop (Y:=[]) HS6.out (by simp),HB6.out⟩
       case measure => simp [Go.RowKit.intOf];omega
     ·have hne : (e1 != 0) = true:=by simpa using he1
      have hfin : AllP z sl L B s1' L1 B1 F n e w (.returned (.tuple #[.int .i64 k,.int .i64 e1])) w6:=by
       rcases Hcase.out with ⟨-,rfl,rfl⟩ | ⟨h,-⟩
       ·exact ⟨rfl,fun h => absurd h he1,fun _ => OwnPost.ofBelow (own_X _ _ _ _) ⟨p,f,HV.out⟩ hB6⟩
       ·exact absurd h he1
      have Hfin:=Lib.hid hfin
      clear hfin
      clear hS6 hB6 hbox6 h5 hb5 hk5 hb6 Hcase hz6 he1
      go_wp2
      refine bodyPost_ret (v:=.tuple #[.int .i64 k,.int .i64 e1]) (by unfold results;try go_simp) rfl Hfin.out
  ·obtain rfl : k = l.length:=by omega
   rw [List.drop_length] at hat
   obtain ⟨rfl,rfl,rfl,rfl,rfl⟩:=hat
   obtain ⟨F8,G8,hS8⟩:=hS
   have hV8:=hS8.a
   have hVz:=HV.out.below hB
   have hzF : z ∉ F8:=fun hm => by have h1:=(hS8.af z hm).1;have h2:=HlF.out z (by obtain ⟨-,FW,FF,-,-,rfl,-⟩:=HV.out;simp);omega
   obtain ⟨F9,hV9,hF9⟩:=v_move hVz hV8 hzF
   have hzin : z ∈ F:=by obtain ⟨-,FW,FF,-,-,rfl,-⟩:=HV.out;simp
   have hmod:=mod_setCells (F:=[z]) (g:=z) (.inl (by simp)) [.pointer (some ⟨p2,0,none⟩),.pointer (some ⟨f2,0,none⟩)] 0 wr (Mod.refl _ wr)
   obtain ⟨W9,hW9⟩ : ∃ W9,wr.setCells z 0 [.pointer (some ⟨p2,0,none⟩),.pointer (some ⟨f2,0,none⟩)] = W9:=⟨_,rfl⟩
   rw [hW9] at hV9 hmod
   have hfin : AllP z sl L B s1' L1 B1 F ((l.length : Nat) : Int) 0 w (.returned (.tuple #[.int .i64 ((l.length : Nat) : Int),.int .i64 0])) W9:=by
    refine ⟨rfl,fun _ => ⟨F9,⟨p2,f2,hV9⟩,((Mod.ofBelow hB).mono (G:=F) (by simp)).trans hmod (fun x hx => by simp at hx;subst hx;exact .inl hzin),fun y hy => ?_⟩,fun h => absurd rfl h⟩
    rcases hF9 y hy with e | e
    ·exact .inl (e ▸ hzin)
    ·exact .inr (hS8.af y e).1
   have hth : wr.there z 0 2:=blk_there (xs:=[.pointer (some ⟨p,0,none⟩),.pointer (some ⟨f,0,none⟩)]) hVz.1 (Nat.le_refl _)
   have hld : ∀ j u,([.pointer (some ⟨p2,0,none⟩),.pointer (some ⟨f2,0,none⟩)] : List Value)[j]? = some u → wr.cell? ((⟨z2,0,none⟩ : Addr).add j) = some u:=fun j u hu => by
    have e : (⟨z2,0,none⟩ : Addr).add j = ⟨z2,j,none⟩:=by unfold Addr.add;split <;> simp_all
    rw [e,blk_cell hV8.1]
    simpa using hu
   have hone : ∀ u ∈ ([.pointer (some ⟨p2,0,none⟩),.pointer (some ⟨f2,0,none⟩)] : List Value),u.oneCell' = true:=fun u hu => by simp at hu;rcases hu with rfl | rfl <;> rfl
   obtain ⟨Hfin,Hth,Hld,Hone,HW9⟩:=hid5 hfin hth hld hone hW9
   clear hfin hth hld hone hW9
   clear hS8 hV8 hVz hV9 hF9 hmod hB hzF hzin hlt
   go_wp2_with (first | (refine wpList_load_flat rfl 109 (.tmp 83) rfl _ rfl [.pointer (some ⟨p2,0,none⟩),.pointer (some ⟨f2,0,none⟩)] _ Tryz.underlying109 rfl (by kernel_rfl) Hld.out ?_) | (refine wpList_store_at rfl 109 (.tmp 85) (.tmp 84) rfl z 0 [.pointer (some ⟨p2,0,none⟩),.pointer (some ⟨f2,0,none⟩)] rfl rfl Hth.out (by kernel_rfl) Hone.out ?_;rw [HW9.out]) | fail)
   refine bodyPost_ret (v:=.tuple #[.int .i64 ((l.length : Nat) : Int),.int .i64 0]) (by unfold results;try go_simp) rfl Hfin.out
end
section
variable {w0 V V' : World} {R : List Rs} {L : Nat → Bool} {σ : Nat → Value}
end
section
variable {q : Nat} {sl : Sl} {L : List Rw} {B : List Bd} {w : World} {F : List Nat}
end
end Go.Proofs.YtfdillpofciicaaGreatDoor
namespace Go.Proofs.YtfdillpofciicaaGreatDoor
open Go Go.RowKit
end Go.Proofs.YtfdillpofciicaaGreatDoor
namespace Go.Proofs.YtfdillpofciicaaGreatDoor
open Go Go.RowKit
attribute [local go_sem] AllFrom.cons_eq AllFrom.nil_eq putF_nil putF_cons wantedL_none wantedL_some OpGoalT OpGoalV OpGoalQ OpGoalA OpGoalK YieldsR preF_nil preF_cons
section
variable {q : Nat} {sl : Sl} {L : List Rw} {B : List Bd} {w : World} {F : List Nat}
end
end Go.Proofs.YtfdillpofciicaaGreatDoor
namespace Go.Proofs.YtfdillpofciicaaGreatDoor
open Go Go.RowKit
section
variable {z q : Nat} {sl sl' : Sl} {L L' : List Rw} {B B' : List Bd} {w : World} {F : List Nat} {n e : Int}
theorem vx_all (h : RepX z sl L B w F) (hO : ZOk sl L B) (hq : ∀ b ∈ B,b.2 ∈ allS sl) (A : Option Addr) (c : Nat) (l : List Ov) (hl2 : l.length ≤ 9223372036854775807) (hA : Lies w w.heap.size A (l.flatMap opC)) (hall : AllO sl L B l n e sl' L' B') :
  Calls Tryz.prog 77 #[.pointer (some ⟨z,0,none⟩),.slice A l.length c] w (fun x w' => x = .returned (.tuple #[.int .i64 n,.int .i64 e]) ∧ OwnPost (RepX z sl' L' B') F w w'):=by
 obtain ⟨p,f,h⟩:=h
 rcases hall with ⟨hl,rfl,rfl,rfl,rfl,rfl⟩ | ⟨hl,s1,L1,B1,hA1,hc⟩
 ·exact (vall_long h A c l hl hl2).mono fun x w' hz => ⟨hz.1,hz.2.2 (by decide)⟩
 ·refine (vall_run h hO hq A c l hl hA hA1).mono fun x w' ⟨hx,h1,h2⟩ => ⟨hx,?_⟩
  rcases hc with ⟨he,rfl,rfl,rfl⟩ | ⟨he,rfl,rfl,rfl⟩
  ·exact h1 he
  ·exact h2 he
theorem vx_state (h : RepX z sl L B w F) (hl : B.length ≤ 60) : Calls Tryz.prog 13 #[.pointer (some ⟨z,0,none⟩)] w (StPost sl L B w):=by
 obtain ⟨p,f,h⟩:=h
 exact vstate_any h hl
theorem vx_do {x : Ov} {h1 : Hd} (h : RepX z sl L B w F) (hD : DoO sl L B x sl' L' B' h1 e) : Calls Tryz.prog 15 #[.pointer (some ⟨z,0,none⟩),.agg (opC x).toArray] w (fun y w' => y = .returned (.tuple #[.agg #[.int .i64 h1.1,.int .i64 h1.2],.int .i64 e]) ∧ OwnPost (RepX z sl' L' B') F w w'):=by
 obtain ⟨p,f,h⟩:=h
 obtain ⟨d,⟨K,a0,a1,a2,a3,a4,a5,a6,a7⟩,⟨s,g⟩,⟨ts,tg⟩,kd,n⟩:=x
 exact (hD.at_.v h).mono fun x w' ⟨hx,F',h1,h2⟩ => ⟨hx,F',⟨p,f,h1⟩,h2⟩
end
section
variable {Lo : Nat} {Z : List Nat} {z p f q : Nat} {sl sl' sl2 : Sl} {L L' L2 : List Rw} {B B' B2 : List Bd} {w : World}
end
end Go.Proofs.YtfdillpofciicaaGreatDoor
