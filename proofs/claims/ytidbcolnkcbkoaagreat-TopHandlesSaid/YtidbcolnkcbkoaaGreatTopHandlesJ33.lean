import Derived.Test.YtidbcolnkcbkoaaGreatTopHandlesJ32
import Derived.Great.BuildSlice
import Derived.Handed
import Derived.Leaving
import Derived.Conc.LeavingOf
/- A part of the proof that TopHandles returns true. -/
namespace Go.Proofs.YtidbcolnkcbkoaaGreat
open Go Go.RowKit
attribute [local go_sem] AllFrom.cons_eq AllFrom.nil_eq putF_nil putF_cons wantedL_none wantedL_some OpGoalT OpGoalV OpGoalQ OpGoalA OpGoalK YieldsR preF_nil preF_cons
def syC (p : Sy) : List Value:=ints p.cells
theorem syC_len (p : Sy) : (syC p).length = 7:=rfl
theorem sysCells_flat (l : List Sy) : sysCells l = l.flatMap syC:=by unfold sysCells ints;rw [List.map_flatMap];rfl
theorem syC_one (p : Sy) : ∀ u ∈ syC p,u.oneCell' = true:=ints_one _
theorem sz_System (p : Sy) : (Tryz.prog.info? 60).map (·.size) = some (syC p).length:=by rw [syC_len];kernel_rfl
theorem sz_Row0 (x : Rw) : (Tryz.prog.info? 63).map (·.size) = some (rwC x).length:=by rw [rwC_len];kernel_rfl
def serO (l : List Sy) (L : List Rw) : List Rw:=if planE l = 0 then serL l L else L
section
variable {z : Nat} {sl : Sl} {L : List Rw} {B : List Bd} {w : World} {F : List Nat}
set_option maxRecDepth 20000 in
set_option maxHeartbeats 8000000 in
theorem serial_any (h : RepX z sl L B w F) (hO : WOk sl L) {Lo : Nat} (hLo : ∀ y ∈ F,Lo ≤ y) (hlo : Lo ≤ w.heap.size) (A : Option Addr) (c : Nat) (l : List Sy) (hl : l.length ≤ 9223372036854775807) (hA : Lies w Lo A (sysCells l)) (hn : ∀ s ∈ l,InR s.n) :
  Calls Tryz.prog 33 #[.pointer (some ⟨z,0,none⟩),.slice A l.length c] w (fun x w' => x = .returned (.int .i64 (planE l)) ∧ OwnPost (RepX z sl (serO l L) B) F w w'):=by
 have H1:=Lib.hid (plan_any A c l w hl (hA.mono hlo))
 rw [sysCells_flat] at hA
 obtain ⟨HV,HO,HLo,Hlo,HA,Hn⟩:=hid6 h hO hLo hlo hA hn
 clear h hO hLo hlo hA hn
 go_enter Tryz.func33,Tryz.ntmps33
 go_wp2_with fail
 refine H1.out.mono ?_
 rintro x1 w1 ⟨v1,rfl,-,hb1⟩
 by_cases hpe : planE l = 0
 rotate_left
 ·have hne : (planE l != 0) = true:=by simpa using hpe
  have hfin : OwnPost (RepX z sl (serO l L) B) F w w1:=by unfold serO;rw [if_neg hpe];exact OwnPost.ofBelow (own_X _ _ _ _) HV.out hb1
  have Hfin:=Lib.hid hfin
  clear hfin
  clear hpe hb1 H1
  go_wp2
  go_ret
  exact ⟨rfl,Hfin.out⟩
 have hso : serO l L = serL l L:=if_pos hpe
 rw [hpe]
 have Hso:=Lib.hid hso
 clear hso
 obtain ⟨h20,hse⟩:=planE_all hpe
 have hB1 : Below Lo w w1:=hb1.mono Hlo.out
 have hV1:=OwnPost.ofBelow (own_X _ _ _ _) HV.out hb1
 obtain ⟨Hse,Hpe,HV1,HB1⟩:=hid4 hse hpe hV1 hB1
 clear hse hpe hV1 hB1
 clear hb1 H1 hl
 go_wp2_with fail
 go_loopw [21] (fun i wr => ∃ k : Nat,k ≤ l.length ∧ i = .int .i64 k ∧ OwnPost (RepX z sl (serL (l.take k) L) B) F w wr) (fun i _ => l.length - (Go.RowKit.intOf i).toNat)
 case atStart => exact ⟨0,by omega,rfl,HV1.out⟩
 case round =>
  obtain ⟨k,hk,rfl,hOP⟩:=hrel
  have hbr : Below Lo w wr:=hOP.mod.toBelow HLo.out Hlo.out
  by_cases hlt : k < l.length
  ·obtain ⟨ab,ao,rfl,hal,hc⟩:=HA.out.rec_at syC_len (by omega) hlt
   have hq : ∀ j u,(syC l[k])[j]? = some u → wr.cell? ((⟨ab,ao + k * 7,none⟩ : Addr).add j) = some u:=fun j u hu => (hbr.cell (p:=(⟨ab,ao + k * 7,none⟩ : Addr).add j) (by rw [add_block];exact hal)).trans (by first | exact hc j u hu | (have:=hc j u hu;rw [Addr.add_mid];exact this))
   have hki : (k : Int) < (l.length : Int):=by omega
   have hsk:=Hse.out l[k] (List.getElem_mem hlt)
   have hnk:=Hn.out l[k] (List.getElem_mem hlt)
   have hst : serL (l.take (k + 1)) L = (serL (l.take k) L).map (stepRow l[k]):=by rw [take_succ_get l k hlt,serL_snoc]
   have hOk : WOk sl (serL (l.take k) L):=serL_ok (fun s hs => Hse.out s (List.mem_of_mem_take hs)) HO.out
   generalize l[k] = sy at *
   generalize serL (l.take k) L = M at *
   obtain ⟨n,t,a,r,q,d,x⟩:=sy
   obtain ⟨F1,⟨p,f,hV⟩,hT⟩:=hOP
   obtain ⟨w3,hw3,hb3,hk3,hs3⟩:=box1 wr (.cells #[.int .i64 n,.int .i64 t,.int .i64 a,.int .i64 r,.int .i64 q,.int .i64 d,.int .i64 x] 60)
   have HbF:=Lib.hid (fun e => (by have:=hV.lt _ e;omega) : wr.heap.size ∉ F1)
   have hV3:=hV.below hb3
   have hT3:=hT.below hb3
   have HR:=Lib.hid (rows_any hV3)
   have hlF1:=hV3.lt
   obtain ⟨HQ,Hsk,Hnk,Hst,HOk,HV3,HT3,Hk3,Hw3,Hs3,HlF1⟩:=hid11 hq hsk hnk hst hOk hV3 hT3 hk3 hw3 hs3 hlF1
   clear hq hsk hnk hst hOk hV3 hT3 hk3 hw3 hs3 hlF1
   have Hlt:=Lib.hid hlt
   clear hc hbr hV hT hb3 hal
   go_wp2_with (first | (refine wpList_load_flat rfl 60 (.tmp 23) rfl _ rfl (syC ⟨n,t,a,r,q,d,x⟩) _ Tryz.underlying60 rfl (sz_System _) HQ.out ?_) | (refine wpList_store_new rfl 60 (.tmp 8) (.tmp 24) rfl wr (ints [0,0,0,0,0,0,0]) (syC ⟨n,t,a,r,q,d,x⟩) 60 rfl rfl rfl (sz_System _) (syC_one _) ?_;rw [show (syC ⟨n,t,a,r,q,d,x⟩).toArray = #[.int .i64 n,.int .i64 t,.int .i64 a,.int .i64 r,.int .i64 q,.int .i64 d,.int .i64 x] from rfl,Hw3.out]) | fail)
   refine HR.out.mono ?_
   rintro x4 w4 ⟨v4,rfl,hrow,hb4⟩
   obtain ⟨A4,c4,rfl,-,-⟩:=row_slice hrow
   have hV4:=HV3.out.below hb4
   have hk4:=(Mod.ofBelow hb4).keep Hk3.out (by simp)
   have hT4:=HT3.out.below hb4
   have hM60:=HOk.out.len
   have hsz : wr.heap.size < w3.heap.size ∧ w3.heap.size ≤ w4.heap.size:=⟨by have:=Hs3.out;omega,hb4.size⟩
   have hkF:=HbF.out
   obtain ⟨HV4,Hk4,HT4,Hrow,HSz,HkF⟩:=hid6 hV4 hk4 hT4 hrow hsz hkF
   clear hV4 hk4 hT4 hrow hsz hkF
   clear hb4 HR HV3 Hk3 HT3 Hw3 HQ
   go_wp2_with fail
   generalize wr.heap.size = bs at *
   go_loopw [28] (fun i wr => ∃ j : Nat,j ≤ M.length ∧ i = .int .i64 j ∧ OwnPost (RepV z p f sl ((M.take j).map (stepRow ⟨n,t,a,r,q,d,x⟩) ++ M.drop j) B) F1 w4 wr) (fun i _ => M.length - (Go.RowKit.intOf i).toNat)
   case atStart => exact ⟨0,by omega,rfl,OwnPost.ofBelow (own_V _ _ _ _ _ _) (by simpa using HV4.out) (Below.refl _ _)⟩
   case round =>
    obtain ⟨j,hj,rfl,hOP⟩:=hrel
    by_cases hlt2 : j < M.length
    ·obtain ⟨F2,hV,hT⟩:=hOP
     have hnF : ∀ b,w3.heap.size ≤ b → b ∉ F1:=fun b hb e => by have:=HlF1.out b e;omega
     have hk5:=hT.mod.keep Hk4.out HkF.out
     have hrw:=row_mod Hrow.out hT.mod (fun b hb => hnF b (own_ge Hrow.out b hb))
     obtain ⟨g0,cap,cur,he,-,-,-⟩:=row_some hrw (by omega)
     cases he
     have hpc:=row_piece rwC_len hrw hlt2 0 (rwC M[j]) (fun i u hu => by rw [Nat.zero_add];exact hu)
     have hgl:=row_lt hrw g0 rfl
     have hnx:=row_next HOk.out Hsk.out j hlt2
     have hbe:=HOk.out.be M[j] (List.getElem_mem hlt2)
     unfold rowP at hnx
     generalize M[j] = y at *
     obtain ⟨⟨s,g⟩,K,a0,a1,a2,a3,a4,a5,a6,a7⟩:=y
     obtain ⟨M1,hM1⟩ : ∃ M1,(M.take j).map (stepRow ⟨n,t,a,r,q,d,x⟩) ++ M.drop j = M1:=⟨_,rfl⟩
     rw [hM1] at hV hnx
     obtain ⟨nb,hnb⟩ : ∃ nb,stepBt ⟨n,t,a,r,q,d,x⟩ (K,a0,a1,a2,a3,a4,a5,a6,a7) = nb:=⟨_,rfl⟩
     have hstep:=fun V => step_do (s:=⟨n,t,a,r,q,d,x⟩) (b:=(K,a0,a1,a2,a3,a4,a5,a6,a7)) Hnk.out Hsk.out hbe V
     simp only at hnx
     rw [hnb] at hnx hstep
     obtain ⟨Kn,b0,b1,b2,b3,b4,b5,b6,b7⟩:=nb
     have hji : (j : Int) < (M.length : Int):=by omega
     obtain ⟨w6,hw6,hb6,hk6,hs6⟩:=box1 wr (.cells #[.int .i64 s,.int .i64 g,.int .i64 K,.int .i64 a0,.int .i64 a1,.int .i64 a2,.int .i64 a3,.int .i64 a4,.int .i64 a5,.int .i64 a6,.int .i64 a7] 63)
     have hV6:=hV.below hb6
     have hT6:=hT.below hb6
     have hk56:=(Mod.ofBelow hb6).keep hk5 (by simp)
     have hq6 : ∀ i u,(rwC ((s,g),K,a0,a1,a2,a3,a4,a5,a6,a7))[i]? = some u → wr.cell? ((⟨g0,j * 11 + 0,none⟩ : Addr).add i) = some u:=hpc
     obtain ⟨HV6,HT6,Hk56,Hk6,Hw6,HStep,HNx,HQ6,HM1⟩:=hid9 hV6 hT6 hk56 hk6 hw6 hstep hnx hq6 hM1
     clear hV6 hT6 hk56 hk6 hw6 hstep hnx hq6 hM1
     have Hlt2:=Lib.hid hlt2
     clear hk5 hrw hpc hV hT hb6 hs6 hnF hbe hnb
     go_wp2_with (first | (refine wpList_load_flat rfl 63 (.tmp 30) rfl _ rfl (rwC ((s,g),K,a0,a1,a2,a3,a4,a5,a6,a7)) _ Tryz.underlying63 rfl (sz_Row0 _) HQ6.out ?_) | (refine wpList_store_new rfl 63 (.tmp 10) (.tmp 31) rfl wr (ints [0,0,0,0,0,0,0,0,0,0,0]) (rwC ((s,g),K,a0,a1,a2,a3,a4,a5,a6,a7)) 63 rfl rfl rfl (sz_Row0 _) (rwC_one _) ?_;rw [show (rwC ((s,g),K,a0,a1,a2,a3,a4,a5,a6,a7)).toArray = #[.int .i64 s,.int .i64 g,.int .i64 K,.int .i64 a0,.int .i64 a1,.int .i64 a2,.int .i64 a3,.int .i64 a4,.int .i64 a5,.int .i64 a6,.int .i64 a7] from rfl,Hw6.out]) | fail)
     generalize wr.heap.size = rb at *
     refine wp_planK [] 10 [0] [some 32,some 33,some 34,some 35,some 36,some 37,some 38,some 39,some 40,some 41] [[],[],[1],[],[3],[],[5],[],[5,6,7],[0,1,2,3,4,5,6,7,8]] [0,1,2,3,4,5,6,7,8,9] (fun Lf σ W => ITurn 9 w6 F2 (RepV z p f sl (putsL (s,g) (K,a0,a1,a2,a3,a4,a5,a6,a7) (Kn,b0,b1,b2,b3,b4,b5,b6,b7) M1 (kindsN (low8 Kn))) B) Lf σ W) mixed rfl (by kernel_rfl) (by decide) (by decide) (by decide) (ITurn.start below_drew) rfl ?_
     iterate 10 apply Exists.intro
     refine ⟨rfl,?_,?_⟩
     ·simp only [tS,List.take_zero,AllFrom.cons_eq,AllFrom.nil_eq,OpGoalK]
      refine ⟨?_,?_,?_,?_,?_,?_,?_,?_,?_,?_,trivial⟩
      all_goals (intro L' σ V h1 h2 h3 hI hp;have HA1:=Lib.hid h1;have HA2:=Lib.hid h2;have HA3:=Lib.hid h3;clear h1 h2 h3;(try simp only [gZ,gS,preK_cons,preK_nil] at hp);(try simp only [List.not_mem_nil,false_or,and_true] at hp);(first | (have hq : True:=hp;clear hq hp) | skip);have HI:=Lib.hid hI;clear hI)
      all_goals (
       have hb:=HI.out.s0 (by first | exact HA3.out 9 (by decide) | exact HA1.out)
       have hRV:=HV6.out.below hb
       have hk1:=(Mod.ofBelow hb).keep Hk6.out (by simp)
       have hk2:=(Mod.ofBelow hb).keep Hk56.out (by simp)
       have e0:=blk_cell hk1 0
       have e1:=blk_cell hk1 1
       have e2:=blk_cell hk1 2
       have e3:=blk_cell hk1 3
       have e4:=blk_cell hk1 4
       have e5:=blk_cell hk1 5
       have e6:=blk_cell hk1 6
       have e7:=blk_cell hk1 7
       have e8:=blk_cell hk1 8
       have e9:=blk_cell hk1 9
       have e10:=blk_cell hk1 10
       simp only [eA,eZ,eS] at e0 e1 e2 e3 e4 e5 e6 e7 e8 e9 e10
       have el:=blk_lt hk1
       have y0:=blk_cell hk2 0
       have y1:=blk_cell hk2 1
       have y2:=blk_cell hk2 2
       have y3:=blk_cell hk2 3
       have y4:=blk_cell hk2 4
       have y5:=blk_cell hk2 5
       have y6:=blk_cell hk2 6
       simp only [eA,eZ,eS] at y0 y1 y2 y3 y4 y5 y6
       have yl:=blk_lt hk2
       have HRV:=Lib.hid hRV
       clear hRV hb hk1 hk2)
      iterate 8 · (go_simp;exact ⟨.inr rfl,HI.out.read (by decide) _⟩)
      ·(go_simp;refine (HStep.out V).mono ?_;rintro e V2 ⟨rfl,hb2⟩;exact ⟨_,rfl,.inr rfl,HI.out.call (HA3.out 9 (by decide)) (by decide) hb2 _⟩)
      ·(go_simp;refine (put_any HRV.out s g K a0 a1 a2 a3 a4 a5 a6 a7 Kn b0 b1 b2 b3 b4 b5 b6 b7).mono ?_;rintro e V2 ⟨rfl,hp2⟩;exact ⟨_,rfl,.inr rfl,HI.out.turn HA1.out hp2 _⟩)
     ·intro L' σ V7 h1 hI hp
      have hP:=hI.s1 (h1 9 (by decide))
      clear h1 hI
      simp only [preK_cons,preK_nil,gZ,gS] at hp;simp only [List.not_mem_nil,false_or,and_true] at hp
      have hOP7 : OwnPost (RepV z p f sl ((M.take (j + 1)).map (stepRow ⟨n,t,a,r,q,d,x⟩) ++ M.drop (j + 1)) B) F1 w4 V7:=by
       rw [← HNx.out]
       obtain ⟨F4,h3,h4⟩:=hP
       exact ⟨F4,h3,HT6.out.trans h4⟩
      have HOP7:=Lib.hid hOP7
      clear hOP7
      clear hP
      simp only [dS,List.drop_zero]
      go_simp
      clear hp
      go_wp2
      refine ⟨rfl,?_⟩
      go_wp2
      go_roundw
      case rel => exact ⟨j + 1,by have:=Hlt2.out;omega,by go_num,HOP7.out⟩
      case measure => have:=Hlt2.out;simp [Go.RowKit.intOf];omega
    ·obtain rfl : j = M.length:=by omega
     rw [List.take_length,List.drop_length,List.append_nil] at hOP
     have hOP2 : OwnPost (RepX z sl (serL (l.take (k + 1)) L) B) F w wr:=by
      rw [Hst.out]
      obtain ⟨F4,h3,h4⟩:=hOP
      exact ⟨F4,⟨p,f,h3⟩,HT4.out.trans h4⟩
     have HOP2:=Lib.hid hOP2
     clear hOP2
     clear hOP hlt2
     go_wp2
     go_roundw
     case rel => exact ⟨k + 1,by have:=Hlt.out;omega,by go_num,HOP2.out⟩
     case measure => have:=Hlt.out;simp [Go.RowKit.intOf];omega
  ·obtain rfl : k = l.length:=by omega
   rw [List.take_length] at hOP
   have HOP:=Lib.hid hOP
   clear hOP
   clear hlt hbr
   go_wp2
   go_ret
   exact ⟨by rw [Hpe.out];rfl,by rw [Hso.out];exact HOP.out⟩
end
end Go.Proofs.YtidbcolnkcbkoaaGreat
namespace Go.Proofs.YtidbcolnkcbkoaaGreat
open Go Go.RowKit
theorem wpList_build1 {P : Program} {ops : Array Oper} {rest : List Oper} {o : Oper} {a : Act} {w : World} {Q : Exit → Act → World → Prop} (hg : o.guard = none) (t e : TypeId) (x : Operand) (ho : o.op = .buildSlice t 1 #[(0,x)])
  (vs : List Value) (hx : a.eval x = .agg vs.toArray) {z : Value} {n b : Nat} (hu : P.underlying t = some (.slice e)) (hinf : (P.info? e).map (fun i => (i.zero,i.size,i.bytes)) = some (some z,n,b)) (hn : vs.length = n) (h0 : 0 < n) (h1 : n ≤ 1000)
  (h : wpList P ops Q rest (a.put o.dst (.slice (some ⟨w.heap.size,0,none⟩) 1 1)) (w.alloc (.cells vs.toArray e))) : wpList P ops Q (o :: rest) a w:=by
 obtain ⟨i0,hi,hz0,hz1,hz2⟩:=info_parts hinf
 refine wpList_buildSlice hg t e 1 #[(0,x)] ho vs.toArray i0 z hu hi hz0 (by rw [hz1];omega) (by rw [hz1];omega) ?_ h
 rw [hz1]
 have:=Great.fill_whole h0 [Value.agg vs.toArray] ((Array.range (1 * n)).map (z.cells[· % z.cells.size]!)) (by intro v hv;simp only [List.mem_singleton] at hv;subst hv;simpa [Value.cells] using hn) (by simp)
 simpa [hx,Value.cells] using this
end Go.Proofs.YtidbcolnkcbkoaaGreat
namespace Go.Proofs.YtidbcolnkcbkoaaGreat
open Go Go.RowKit
attribute [local go_sem] AllFrom.cons_eq AllFrom.nil_eq putF_nil putF_cons wantedL_none wantedL_some OpGoalT OpGoalV OpGoalQ OpGoalA OpGoalK YieldsR preF_nil preF_cons
theorem eqlArr (w : World) (a b : List Int) (ha : a.length = 8) (hb : b.length = 8) : (binOp .eql 39 (.agg (ints a).toArray) (.agg (ints b).toArray)).run Tryz.prog w = .ok (.bool (eqB a b)) w :=
 (esArr 9998).eqlI w a b ha hb rfl rfl
def ScrP (sl : Sl) (R : List Rw) (B : List Bd) (w : World) (e : Ending) (w' : World) : Prop :=
 ∃ A1 n1 c1 v2 A3 n3 c3,e = .returned (.tuple #[.agg #[.slice A1 n1 c1,v2,.slice A3 n3 c3],.int .i64 0]) ∧ w'.ownsRow 0 63 11 v2 R.length (R.flatMap rwC) ∧ Below w.heap.size w w'
set_option maxRecDepth 100000 in
set_option maxHeartbeats 4000000 in
theorem script0 (A : Option Addr) (c : Nat) (l : List Ov) (A2 : Option Addr) (c2 : Nat) (ys : List Sy) (w : World) (hl : l.length ≤ 9223372036854775807) (hly : ys.length ≤ 9223372036854775807) (hA : Lies w w.heap.size A (l.flatMap opC)) (hA2 : Lies w w.heap.size A2 (sysCells ys)) (hn : ∀ s ∈ ys,InR s.n) {n : Int} {sl : Sl} {R : List Rw} {B : List Bd} (hall : AllO [] [] [] l n 0 sl R B) (hp : planE ys = 0) :
  Calls Tryz.prog 13 #[.slice A l.length c,.slice A2 ys.length c2,.int .i64 0] w (ScrP sl (serL ys R) B w):=by
 obtain ⟨w0,hw0,hb0,hz0,hs0⟩:=box1 w (.cells #[.slice none 0 0,.slice none 0 0,.slice none 0 0] 30)
 have H1:=Lib.hid (zooNew_any w0)
 have hO0 : ZOk [] [] []:=⟨wok_nil,famOk_nil,by simp⟩
 have hO1:=(hall.ok hO0 (by simp)).1
 obtain ⟨HA,HA2,Hn,Hall,Hp,HO0,HO1,Hb0,Hz0,Hs0⟩:=hid10 hA hA2 hn hall hp hO0 hO1 hb0 hz0 hs0
 clear hA hA2 hn hall hp hO0 hO1 hb0 hz0 hs0
 obtain ⟨HL,HLy⟩:=hid2 hl hly
 clear hl hly
 go_enter Tryz.func13,Tryz.ntmps13
 go_wp2_with fail
 clear hw0
 refine H1.out.mono ?_
 rintro e w1 ⟨z,p,f,F,rfl,hW,hF,hb1⟩
 have hX : RepX z [] [] [] w1 F:=⟨p,f,hW⟩
 have hz1:=(Mod.ofBelow hb1).keep Hz0.out (by simp)
 have hb01:=Hb0.out.trans (hb1.mono Hb0.out.size)
 have hs1:=hb1.size
 have H2:=Lib.hid (vx_all hX HO0.out (by simp) A c l HL.out ((HA.out.below hb01).mono hb01.size) Hall.out)
 obtain ⟨Hz1,Hb01,HF,Hs1⟩:=hid4 hz1 hb01 hF hs1
 clear hz1 hb01 hF hs1
 clear hW hX hb1 H1
 go_wp2_with fail
 refine H2.out.mono ?_
 rintro e w2 ⟨rfl,F2,hX2,hT2⟩
 have hge : ∀ y ∈ F,w.heap.size ≤ y:=fun y hy => Nat.le_trans Hb0.out.size (HF.out y hy)
 have hb02:=Hb01.out.trans (hT2.mod.toBelow hge Hb01.out.size)
 have hge2 : ∀ y ∈ F2,w0.heap.size ≤ y:=fun y hy => (hT2.new y hy).elim (HF.out y) (Nat.le_trans Hs1.out)
 have hn0 : w.heap.size ∉ F:=fun e => by have:=HF.out _ e;have:=Hs0.out;omega
 have hz2:=hT2.mod.keep Hz1.out hn0
 have hlo : w.heap.size ≤ w2.heap.size:=hb02.size
 have H3:=Lib.hid (serial_any hX2 HO1.out.w (Lo:=w.heap.size) (fun y hy => by have:=hge2 y hy;have:=Hs0.out;omega) hlo A2 c2 ys HLy.out (HA2.out.below hb02) Hn.out)
 obtain ⟨Hz2,Hb02,Hge2⟩:=hid3 hz2 hb02 hge2
 clear hz2 hb02 hge2
 clear hX2 hT2 hge hn0 hlo H2
 go_wp2_with fail
 refine H3.out.mono ?_
 rintro e w3 ⟨rfl,F3,hX3,hT3⟩
 have hn2 : w.heap.size ∉ F2:=fun e => by have:=Hge2.out _ e;have:=Hs0.out;omega
 have hz3:=hT3.mod.keep Hz2.out hn2
 have hb03:=Hb02.out.trans (hT3.mod.toBelow (fun y hy => by have:=Hge2.out y hy;have:=Hs0.out;omega) Hb02.out.size)
 have hso : serO ys R = serL ys R:=if_pos Hp.out
 rw [hso] at hX3
 rw [Hp.out]
 have hOS : ZOk sl (serL ys R) B:=⟨serL_ok (planE_all Hp.out).2 HO1.out.w,HO1.out.f,HO1.out.c⟩
 have H4:=Lib.hid (vx_state hX3 hOS.len)
 obtain ⟨Hz3,Hb03⟩:=hid2 hz3 hb03
 clear hz3 hb03
 clear hX3 hT3 hn2 hso hOS H3
 go_wp2_with fail
 refine H4.out.mono ?_
 rintro e w4 ⟨v1,v2,v3,rfl,g1,g2,g3,hb4⟩
 have hz4:=(Mod.ofBelow hb4).keep Hz3.out (by simp)
 have hb04:=Hb03.out.trans (hb4.mono Hb03.out.size)
 obtain ⟨A7,k7,rfl,-,-⟩:=row_slice g1
 obtain ⟨A8,k8,rfl,-,-⟩:=row_slice g2
 obtain ⟨A9,k9,rfl,-,-⟩:=row_slice g3
 obtain ⟨c0,c1,c2,cl⟩:=cells3 hz4
 have f0:=blk_free hz4 0
 have f1:=blk_free hz4 1
 have f2:=blk_free hz4 2
 have h3lt : w.heap.size < w3.heap.size:=blk_lt Hz3.out
 have hrows : ∀ V,Mod [w.heap.size] w4 V → V.ownsRow 0 63 11 (.slice A8 (serL ys R).length k8) (serL ys R).length ((serL ys R).flatMap rwC):=fun V hm => row_base (row_mod g2 hm (fun k hk e => by have:=own_ge g2 k hk;simp at e;omega)) (fun _ _ => Nat.zero_le _)
 have hfin : ∀ V,Mod [w.heap.size] w4 V → ScrP sl (serL ys R) B w (.returned (.tuple #[.agg #[.slice A7 (gensS sl).length k7,.slice A8 (serL ys R).length k8,.slice A9 B.length k9],.int .i64 0])) V:=fun V hm => ⟨_,_,_,_,_,_,_,rfl,hrows V hm,hb04.trans (hm.toBelow (by simp) hb04.size)⟩
 have Hfin:=Lib.hid hfin
 clear hfin
 clear g1 g2 g3 hz4 hb4 hrows hb04 H4
 go_wp2
 refine bodyPost_ret (v:=.tuple #[.agg #[.slice A7 (gensS sl).length k7,.slice A8 (serL ys R).length k8,.slice A9 B.length k9],.int .i64 0]) (by unfold results;try go_simp) rfl (Hfin.out _ ?_)
 repeat (refine Mod.setCell ?_ (.inl (by simp)) _)
 exact Mod.refl _ _
theorem works_all : AllO [] [] [] [(1,(3,0,0,0,0,0,0,0,0),(0,0),(0,0),0,0)] 1 0 (spawnS [] (3,0,0,0,0,0,0,0,0)) (spawnL [] [] (3,0,0,0,0,0,0,0,0)) []:=by
 have h0:=doAt_spawn (sl:=[]) (L:=[]) (B:=[]) ⟨wok_nil,famOk_nil,by simp⟩ 3 0 0 0 0 0 0 0 0 0 0 0 0 0 0
 have e1 : spawnH [] (3,0,0,0,0,0,0,0,0) = (0,0):=by decide +kernel
 have e2 : spawnE [] (3,0,0,0,0,0,0,0,0) = 0:=by decide +kernel
 rw [e1,e2] at h0
 have hD : DoO [] [] [] (meanO [] (1,(3,0,0,0,0,0,0,0,0),(0,0),(0,0),0,0)) (spawnS [] (3,0,0,0,0,0,0,0,0)) (spawnL [] [] (3,0,0,0,0,0,0,0,0)) [] (0,0) 0:=h0
 have hA : AllAt [] [] [] [] 0 [(1,(3,0,0,0,0,0,0,0,0),(0,0),(0,0),0,0)] 1 0 (spawnS [] (3,0,0,0,0,0,0,0,0)) (spawnL [] [] (3,0,0,0,0,0,0,0,0)) [] :=
  .inr ⟨rfl,spawnS [] (3,0,0,0,0,0,0,0,0),spawnL [] [] (3,0,0,0,0,0,0,0,0),[],(0,0),0,hD,.inr ⟨rfl,rfl,rfl,rfl,rfl,rfl⟩⟩
 exact .inr ⟨by simp,spawnS [] (3,0,0,0,0,0,0,0,0),spawnL [] [] (3,0,0,0,0,0,0,0,0),[],hA,.inl ⟨rfl,rfl,rfl,rfl⟩⟩
theorem works_plan : planE [⟨0,0,0,0,2,1,7⟩] = 0:=by decide +kernel
theorem works_rows : serL [⟨0,0,0,0,2,1,7⟩] (spawnL [] [] (3,0,0,0,0,0,0,0,0)) = [((0,0),(3,0,7,0,0,0,0,0,0))]:=by
 decide +kernel
set_option maxRecDepth 100000 in
set_option maxHeartbeats 4000000 in
theorem works_any (w : World) : Calls Tryz.prog 5 #[] w fun e w' => e = .returned (.bool true) ∧ Below w.heap.size w w':=by
 obtain ⟨w1,hw1,hb1,hz1,hs1⟩:=box1 w (.cells #[.int .i64 1,.int .i64 3,.int .i64 0,.int .i64 0,.int .i64 0,.int .i64 0,.int .i64 0,.int .i64 0,.int .i64 0,.int .i64 0,.int .i64 0,.int .i64 0,.int .i64 0,.int .i64 0,.int .i64 0,.int .i64 0] 45)
 obtain ⟨w2,hw2,hb2,hz2,hs2⟩:=box1 w1 (.cells #[.int .i64 0,.int .i64 0,.int .i64 0,.int .i64 0,.int .i64 2,.int .i64 1,.int .i64 7] 60)
 have hb02:=hb1.trans (hb2.mono hb1.size)
 have hL1 : Lies w1 w1.heap.size (some ⟨w.heap.size,0,none⟩) (([(1,(3,0,0,0,0,0,0,0,0),(0,0),(0,0),0,0)] : List Ov).flatMap opC):=by rw [← hw1];exact lies_new rfl
 have hL2 : Lies w2 w2.heap.size (some ⟨w1.heap.size,0,none⟩) (sysCells [⟨0,0,0,0,2,1,7⟩]):=by rw [← hw2];exact lies_new rfl
 have h1:=(script0 (some ⟨w.heap.size,0,none⟩) 1 [(1,(3,0,0,0,0,0,0,0,0),(0,0),(0,0),0,0)] (some ⟨w1.heap.size,0,none⟩) 1 [⟨0,0,0,0,2,1,7⟩] w2 (by simp) (by simp) ((hL1.below hb2).mono hb2.size) hL2 (by intro s hs;rw [List.mem_singleton] at hs;subst hs;exact inR_small (by decide) (by decide)) works_all works_plan)
 unfold ScrP at h1
 rw [works_rows] at h1
 simp only [List.length_cons,List.length_nil,Nat.zero_add] at h1
 have H1:=Lib.hid h1
 clear h1
 obtain ⟨Hw1,Hw2,Hb02⟩:=hid3 hw1 hw2 hb02
 clear hw1 hw2 hb02
 clear hb1 hb2 hz1 hz2 hL1 hL2 hs1 hs2
 go_enter Tryz.func5,Tryz.ntmps5
 go_wp2_with (first | (refine wpList_build1 rfl 22 45 (.tmp 5) rfl (opC (1,(3,0,0,0,0,0,0,0,0),(0,0),(0,0),0,0)) rfl Tryz.underlying22 (z:=.agg #[.int .i64 0,.int .i64 0,.int .i64 0,.int .i64 0,.int .i64 0,.int .i64 0,.int .i64 0,.int .i64 0,.int .i64 0,.int .i64 0,.int .i64 0,.int .i64 0,.int .i64 0,.int .i64 0,.int .i64 0,.int .i64 0]) (b:=128) (by kernel_rfl) (opC_len _) (by omega) (by omega) ?_;rw [show (opC (1,(3,0,0,0,0,0,0,0,0),(0,0),(0,0),0,0)).toArray = #[.int .i64 1,.int .i64 3,.int .i64 0,.int .i64 0,.int .i64 0,.int .i64 0,.int .i64 0,.int .i64 0,.int .i64 0,.int .i64 0,.int .i64 0,.int .i64 0,.int .i64 0,.int .i64 0,.int .i64 0,.int .i64 0] from rfl,Hw1.out]) | (refine wpList_build1 rfl 61 60 (.tmp 7) rfl (syC ⟨0,0,0,0,2,1,7⟩) rfl Tryz.underlying61 (z:=.agg #[.int .i64 0,.int .i64 0,.int .i64 0,.int .i64 0,.int .i64 0,.int .i64 0,.int .i64 0]) (b:=56) (by kernel_rfl) (syC_len _) (by omega) (by omega) ?_;rw [show (syC ⟨0,0,0,0,2,1,7⟩).toArray = #[.int .i64 0,.int .i64 0,.int .i64 0,.int .i64 0,.int .i64 2,.int .i64 1,.int .i64 7] from rfl,Hw2.out]) | fail)
 refine H1.out.mono ?_
 rintro e w3 ⟨A1,n1,k1,v2,A3,n3,k3,rfl,hrow,hb3⟩
 obtain ⟨g,cap,cur,rfl,-,-,-⟩:=row_some hrow (by simp)
 obtain ⟨w4,hw4,hb4,hz4,hs4⟩:=box1 w3 (.cells #[.slice A1 n1 k1,.slice (some ⟨g,0,none⟩) 1 cap,.slice A3 n3 k3] 30)
 have hb04:=Hb02.out.trans ((hb3.trans (hb4.mono hb3.size)).mono Hb02.out.size)
 have hr4:=row_mod hrow (Mod.ofBelow hb4) (by simp)
 have e3:=row_cell hr4 (i:=3) (u:=.int .i64 0) rfl
 have e4:=row_cell hr4 (i:=4) (u:=.int .i64 7) rfl
 have e5:=row_cell hr4 (i:=5) (u:=.int .i64 0) rfl
 have e6:=row_cell hr4 (i:=6) (u:=.int .i64 0) rfl
 have e7:=row_cell hr4 (i:=7) (u:=.int .i64 0) rfl
 have e8:=row_cell hr4 (i:=8) (u:=.int .i64 0) rfl
 have e9:=row_cell hr4 (i:=9) (u:=.int .i64 0) rfl
 have e10:=row_cell hr4 (i:=10) (u:=.int .i64 0) rfl
 have hgl:=row_lt hr4 g rfl
 have heq : ∀ w,(binOp .eql 39 (.agg #[.int .i64 0,.int .i64 7,.int .i64 0,.int .i64 0,.int .i64 0,.int .i64 0,.int .i64 0,.int .i64 0]) (.agg #[.int .i64 0,.int .i64 7,.int .i64 0,.int .i64 0,.int .i64 0,.int .i64 0,.int .i64 0,.int .i64 0])).run Tryz.prog w = .ok (.bool true) w:=fun w => by
  have:=eqlArr w [0,7,0,0,0,0,0,0] [0,7,0,0,0,0,0,0] rfl rfl
  rw [eqB_self] at this
  exact this
 obtain ⟨c0,c1,c2,cl⟩:=cells3 hz4
 have Hb04:=Lib.hid hb04
 clear hb04
 clear hrow hr4 hb3 hb4 hs4 hz4 H1
 go_wp2
 go_ret
 exact ⟨rfl,Hb04.out⟩
end Go.Proofs.YtidbcolnkcbkoaaGreat
namespace Go.Proofs.YtidbcolnkcbkoaaGreat
open Go Go.RowKit Go.Maps
def encB (x : Hd × Bool) : Value × Value:=(hdV x.1,.bool x.2)
theorem encB_keys : HdKeys encB:=⟨fun _ => rfl⟩
def MapP (m1 m2 : Nat) (T D : List (Hd × Bool)) (w : World) (G : List Nat) : Prop :=
 MapAt Tryz.prog 43 w m1 (T.map encB) ∧ MapAt Tryz.prog 43 w m2 (D.map encB) ∧ G = [m1,m2] ∧ m1 ≠ m2
theorem own_MP (m1 m2 : Nat) (T D : List (Hd × Bool)) : Own (MapP m1 m2 T D):=⟨fun ⟨h1,h2,h3,h4⟩ hm hd => ⟨h1.mod hm (hd m1 (by rw [h3];simp)),h2.mod hm (hd m2 (by rw [h3];simp)),h3,h4⟩,fun ⟨h1,h2,h3,_⟩ y hy => by
 rw [h3] at hy
 simp only [List.mem_cons,List.not_mem_nil,or_false] at hy
 rcases hy with rfl | rfl
 ·exact h1.lt
 ·exact h2.lt⟩
structure THok (sl : Sl) (T D : List (Hd × Bool)) : Prop where
 told : ∀ x ∈ T,Told sl x.1 ∧ HdR x.1
 all : ∀ h ∈ allS sl,∃ b,(h,b) ∈ T
 dead : ∀ x ∈ D,x.2 = true → GoneS sl x.1
theorem thok_nil : THok [] [] []:=⟨by simp,by simp [allS,allFrom],by simp⟩
section
variable {sl sl' : Sl} {T T' D D' : List (Hd × Bool)} {d r0 r1 e : Int}
theorem THok.other (h : THok sl T D) (hp : DoPl sl d sl' r0 r1 e) (hn : ¬ (d = 1 ∧ e = 0)) : THok sl' T D :=
 ⟨fun x hx => ⟨hp.told _ (h.told x hx).1,(h.told x hx).2⟩,fun y hy => (hp.sub y hy).elim (h.all y) fun h2 => absurd ⟨h2.1,h2.2.1⟩ hn,fun x hx hb => hp.gone _ (h.dead x hx hb)⟩
theorem THok.fresh (h : THok sl T D) (hp : DoPl sl d sl' r0 r1 e) (h1 : d = 1) (h2 : e = 0) : ∀ x ∈ T,x.1 ≠ (r0,r1):=fun x hx e2 => (hp.new h1 h2).2 (e2 ▸ (h.told x hx).1)
theorem THok.spawn (h : THok sl T D) (hp : DoPl sl d sl' r0 r1 e) (h1 : d = 1) (h2 : e = 0) (hT : T'.Perm (((r0,r1),true) :: T.filter (fun x => decide (x.1 ≠ (r0,r1))))) : THok sl' T' D:=by
 have hf : T.filter (fun x => decide (x.1 ≠ (r0,r1))) = T:=List.filter_eq_self.2 fun x hx => by simpa using h.fresh hp h1 h2 x hx
 rw [hf] at hT
 refine ⟨fun x hx => ?_,fun y hy => ?_,fun x hx hb => hp.gone _ (h.dead x hx hb)⟩
 ·rcases List.mem_cons.1 (hT.mem_iff.1 hx) with rfl | hx
  ·exact ⟨.inl (hp.new h1 h2).1,hp.hr⟩
  ·exact ⟨hp.told _ (h.told x hx).1,(h.told x hx).2⟩
 ·rcases hp.sub y hy with hy | hy
  ·obtain ⟨b,hb⟩:=h.all y hy
   exact ⟨b,hT.mem_iff.2 (List.mem_cons_of_mem _ hb)⟩
  ·exact ⟨true,hT.mem_iff.2 (by rw [hy.2.2];simp)⟩
theorem THok.look (h : THok sl T D) {x : Hd × Bool} (hx : x ∈ T) (hD : D'.Perm ((x.1,!liveB sl x.1.1 x.1.2) :: D.filter (fun y => decide (y.1 ≠ x.1)))) : THok sl T D':=by
 refine ⟨h.told,h.all,fun y hy hb => ?_⟩
 rcases List.mem_cons.1 (hD.mem_iff.1 hy) with rfl | hy
 ·simp only at hb ⊢
  rcases (h.told x hx).1 with h1 | h1
  ·rw [(liveB_iff sl x.1.1 x.1.2).2 h1] at hb;cases hb
  ·exact h1
 ·exact h.dead y (List.mem_filter.1 hy).1 hb
theorem THok.gone (h : THok sl T D) {x : Hd} (hx : (x,true) ∈ D) : liveB sl x.1 x.2 = false:=by
 cases hl : liveB sl x.1 x.2 with
 | false => rfl
 | true => exact absurd ((liveB_iff sl x.1 x.2).1 hl) (gone_not_live (h.dead _ hx rfl))
theorem THok.count {L : List Rw} (h : THok sl T D) (hw : WOk sl L) : L.length ≤ T.length:=by
 have h1 : (L.map (·.1)).Nodup:=by
  unfold List.Nodup
  rw [List.pairwise_map]
  exact hw.sorted.imp fun {a b} hlt e => by rw [e] at hlt;omega
 have h2:=nodup_le h1 (ys:=T.map (·.1)) (fun x hx => by
  rw [hw.hs] at hx
  obtain ⟨b,hb⟩:=h.all x hx
  exact List.mem_map.2 ⟨_,hb,rfl⟩)
 simpa using h2
end
theorem getE_live {sl : Sl} {L : List Rw} (h : WOk sl L) (s g : Int) : getE L (s,g) = if liveB sl s g = true then 0 else 7:=by
 unfold getE
 rcases h.idx s g with ⟨h1,i,h2⟩ | ⟨h1,h2⟩
 ·rw [h2,h1];rfl
 ·rw [h2,h1];rfl
end Go.Proofs.YtidbcolnkcbkoaaGreat
namespace Go.Proofs.YtidbcolnkcbkoaaGreat
open Go
theorem ReturnsInHanded.leaving {a : Assume} {C : Checked} {os : Os} {f : FuncId} {r : Reach} {Pre : World → Array Value → Prop} {Post : World → Array Value → Value → World → Prop}
  (h : ReturnsInHanded a C os f r Pre Post) : ReturnsInLeavingWide a C os f r Pre Post:=fun enter => by
 obtain ⟨k1,k2,k3,k4,all⟩:=h enter
 refine ⟨k1,k2,k3,k4,fun w tape i hx => ?_⟩
 obtain ⟨n,v,w',h1,h2,h3,h4,⟨m,last,e1,e2,hat⟩,h6⟩:=all w tape i hx
 exact ⟨n,v,w',h1,h2,h3,h4,⟨m,last,e1,e2,⟨hat.2.1,onlyLeaving_of_quiet hat.1,hat.2.2⟩⟩,h6⟩
end Go.Proofs.YtidbcolnkcbkoaaGreat
